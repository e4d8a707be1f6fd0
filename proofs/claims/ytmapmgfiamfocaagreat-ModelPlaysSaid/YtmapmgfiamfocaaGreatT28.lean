/- This file holds in one the texts R26, R27, R28, R29, YO28, R30; each says at its head what it proves. -/
import Derived.Test.YtmapmgfiamfocaaGreatT15
import Derived.Test.YtmapmgfiamfocaaGreatT22
import Derived.Test.YtmapmgfiamfocaaGreatT27
set_option linter.unusedSimpArgs false
set_option linter.unusedVariables false
section
set_option maxRecDepth 100000
namespace Go.Mod
theorem Q64(S:MSt)(c:Zc):(Z0 S c).1.keys.length<=S.keys.length+1:=by
 unfold Z0;split
 . unfold Q2
   repeat' split
   . unfold Qng;split<;>simp
   . unfold Qdf;repeat' split
     all_goals simp
   . unfold Qan;repeat' split
     all_goals simp
   . unfold Yq;repeat' split
     all_goals simp
   . unfold Qca;repeat' split
     all_goals simp
   . unfold Y3;repeat' split
     all_goals simp
   . unfold Qcc;repeat' split
     all_goals simp
   . unfold Xx;repeat' split
     all_goals simp
   . unfold Qwn;simp
   . unfold Bz;repeat' split
     all_goals simp
   . unfold Qzf;simp
 . repeat' split
   all_goals simp
theorem Qu1:∀(l:List Zc) (S:MSt),(Zj S l).1.keys.length<=S.keys.length+l.length
 |[],S=>by simp[Zj]
 |c::l,S=>by
  have h1:=Qu1 l (Z0 S c).1;have h2:=Q64 S c;simp only[Zj,List.length_cons];omega
theorem Qvt:∀(l:List Zc) (S:MSt) (n:Nat),J1 S n->(ids S.lines).Pairwise (· < ·)->(ids (Zj S l).1.lines).Pairwise (· < ·)
 |[],S,n,ok,h=>h
 |c::l,S,n,ok,h=>by
  simp only[Zj];exact Qvt l _ (n+1) (by have:=Go.Proofs.YtmapmgfiamfocaaGreat.runCalls_ok [c] S n ok;exact this) (Q61 ok h c)
end Go.Mod
namespace Go.Proofs.YtmapmgfiamfocaaGreat
open Go.AM Go.Mod
attribute [local irreducible] U W
theorem Qah.frz:∀{rs:List Zi} {cs:List V},Qah cs rs->∀(g:Get) (m:Nat),frzL (frz g (m+2)) cs=some cs
 |[],cs,h,g,m=>by
  have:cs=[]:=h;subst this;rfl
 |x::rs,cs,h,g,m=>by
  obtain⟨a,d,rfl,h1,⟨dv,nv,lv,e,b1,b2,b3⟩,h3⟩:=h;injection e with e;subst e;refine Qb2 ?_ (Qah.frz h3 g m);have f1:=Ql.frz' b1 g (m+1);have f2:=Ql.frz' b2 g (m+1);have f3:=Ql.frz' b3 g (m+1);simp only[frzL,f1,f2,f3];rfl
theorem Qah.scal:∀{rs:List Zi} {cs:List V},Qah cs rs->cs.all V.scalar=true/\∀p,Zv p cs=false
 |[],cs,h=>by
  have:cs=[]:=h;subst this;exact⟨rfl,fun _=>rfl⟩
 |x::rs,cs,h=>by
  obtain⟨a,d,rfl,h1,⟨dv,nv,lv,e,b1,b2,b3⟩,h3⟩:=h;injection e with e;subst e;obtain⟨q1,q2⟩:=Qah.scal h3;refine⟨?_,fun p=>?_⟩
  . simp only[List.all_append,q1,Zht,Qz b1,Qz b2,Qz b3];rfl
  . have r1:=Ql.noRefs b1 p;have r2:=Ql.noRefs b2 p;have r3:=Ql.noRefs b3 p;simp[Zv,V.refs,q2,r1,r2,r3]
theorem Q1a:HsR .nS .nS .nS [] Zq:=⟨Ql.nil,Ql.nil,Ql.nil,rfl⟩
set_option maxHeartbeats 8000000 in
theorem Qxm(v:V)(cs:List V)(l:List Zc)(hv:Ql 8 v cs l.length)(hc0:¬64<l.length->Qd5 cs l):Fz Tryz.prog Qv 6 [v] fun r=>∃ov os,r= .tuple [ov,.int .i64 (if 64<l.length then 4 else 0)]/\
 Ql 10 ov os (if 64<l.length then[] else(Zj Zq l).2).length/\Qah os (if 64<l.length then[] else(Zj Zq l).2):=by
 refine Jx Tryz.func6 rfl ?_;have len:=hv.len Tryz.underlying22;have sv:=Qz hv;have nv0:=Ql.noRefs hv;simp only[wA,↓Qc,simprocAttr,Tryz.ntmps6,len,sv,ta,wH,wB];refine W.ite (fun h1=>?_) (fun h1=>?_)
 . have h1' :64<l.length:=by have:=of_decide_eq_true h1;omega
   simp only[wA,↓Qc,simprocAttr];refine W.done (Zg.ret rfl rfl ⟨.nS,[],?_,?_,?_⟩)
   . rw[if_pos h1'];rfl
   . rw[if_pos h1'];exact Ql.nil
   . rw[if_pos h1'];rfl
 . have h1' :¬64<l.length:=by have:=of_decide_eq_false h1;omega
   have hc:=hc0 h1';simp only[if_neg h1'];simp only[wA,↓Qc,simprocAttr,len,sv,ta,wH,wB];refine W.ul ?_;refine W.loop (fun(i:Nat) t H1=>∃os pv lv hv' cs',Bq [0,4,5,6] t 0=Qzc v (.ptr 0 4 0) (Ji 31 os i 10) (.int .i64 i)/\i<=l.length/\Qah os (Zj Zq (l.take i)).2/\HsR pv lv hv' cs' (Zj Zq (l.take i)).1/\
    H1.modify 0 (Xq fun s=>[7,8].contains s)=[(4,.cells (Qo (Zj Zq (l.take i)).1.last pv lv hv'))::Kb 31 i]) (fun i=>l.length-i) ?_ 0 ⟨[],.nS,.nS,.nS,[],rfl,by omega,rfl,Q1a,rfl⟩ rfl
   rintro i t H1 ⟨os,pv,lv,hv',cs',ht,hi,hos,hS,hdel⟩;have ok:=runCalls_ok (l.take i) Zq 0 Qka;rw[Zff,Zf9,Zgb hi] at ok;have hkn:=Qu1 (l.take i) Zq;rw[Zf9,Zgb hi,show Zq.keys.length=0 from rfl,Zff] at hkn;have hri:=Qvt (l.take i) Zq 0 Qka List.Pairwise.nil;have hk40:(Zj Zq (l.take i)).2.length=i:=by rw[Qdu,Zf9];omega
   have hol:=hos.len;rw[hk40] at hol;have nr:∀p,p 0 31=false->(Ji 31 os i 10).refs p=false:=fun p hp=>by
    unfold Ji;split
    . rfl
    . simp only[V.refs,hp,hos.scal.2 p,Zhq]
   have nh:∀p,Jt p (Kb 31 i)=true:=fun p=>by unfold Kb;split<;>rfl
   have hclr:Jj (fun f s=>f==0&&[7,8].contains s) [(4,.cells (Qo (Zj Zq (l.take i)).1.last pv lv hv'))::Kb 31 i]=true:=by simp[Jj,Jt,O.refs,Zv,V.refs,Qo,Ql.noRefs hS.p,Ql.noRefs hS.l,Ql.noRefs hS.h,nh]
   refine⟨_,[(4,.cells (Qo (Zj Zq (l.take i)).1.last pv lv hv'))::Kb 31 i],(Qau (kt:=[0,4,5,6]) (ds:=[7,8]) rfl (by rw[ht];simp[Qzc,Zv,V.refs,nv0,nr]) (by rw[hdel];exact hclr)).trans (by rw[ht,hdel]),?_⟩;have s1:=Qz hS.p;have s2:=Qz hS.l;have s3:=Qz hS.h;have p1:=Ql.pure hS.p;have p2:=Ql.pure hS.l;have p3:=Ql.pure hS.h;have key:i<l.length\/¬i<l.length:=Classical.em _;rcases key with h|h
   . have c1:decide ((i:Int)<l.length)=true:=Zig (by omega);have w1:(IntKind.i64).wrap ((i:Int)+1)=((i+1:Nat):Int):=by rw[wrap_i64]<;>omega
     have at1:=hv.at (k:= .i64) Tryz.underlying22 sz41 (by decide) (i:=(i:Int)) (by omega) (by omega);obtain⟨dv,hcell,hok⟩:=hc.at_ (Ze3 h);have rdc:Zf Tryz.prog 41 cs ((i:Int).toNat*8)=some (.agg (Qf l[i] dv)):=by rw[rd41,if_pos (by rw[hc.len];have:(i:Int).toNat=i:=rfl;omega)];exact congrArg (fun x=>some (V.agg x)) hcell
     have sdv:=Ql.scalar hok.data;have pdv:=Ql.pure hok.data;have stake:Zj Zq (l.take (i+1))=((Z0 (Zj Zq (l.take i)).1 l[i]).1,(Zj Zq (l.take i)).2++[(Z0 (Zj Zq (l.take i)).1 l[i]).2]):=by rw[Zg6,Ze3 h,Zhu,Qf5];rfl
     have hdo:=Do_fz pv lv hv' cs' _ hS i ok (by omega) hkn hri l[i] dv hok;have hfh:=fun(g:Get)=>Kn (made:=(Zj Zq (l.take i)).1.last) hS.p hS.l hS.h g 10;have hfc:=Qt7 (c:=l[i]) hok.data;generalize hSS:(Zj Zq (l.take i)).1=S at*;simp only[Qf] at hdo hfc rdc;simp only[wA,↓Qc,simprocAttr,Qzc,c1,len,sv,s1,s2,s3,p1,p2,p3,sdv,pdv,Qo,↓at1,↓rdc,V.pure,Zgp,ta,wH,wB];refine W.pcallT hdo rfl rfl (Qt (hfh _) (Qt hfc rfl)) ?_;rintro _ ⟨_,_,rfl,⟨pv2,lv2,hv2,cs2,rfl,h'⟩,dv2,nv2,lv3,rfl,b1,b2,b3⟩;have x1:=Qz h'.p;have x2:=Qz h'.l;have x3:=Qz h'.h;have y1:=Qz b1;have y2:=Qz b2;have y3:=Qz b3;have z1:=Ql.pure b1;have z2:=Ql.pure b2;have z3:=Ql.pure b3;have hlen2:(Zj Zq (l.take (i+1))).1=(Z0 S l[i]).1:=by rw[stake]
     have hos2:Qah (os++[.int .i64 (Z0 S l[i]).2.err,.int .i64 (Z0 S l[i]).2.id,dv2,nv2,.int .i64 (Z0 S l[i]).2.info.obj,.int .u8 (Z0 S l[i]).2.info.kind,.int .i64 (Z0 S l[i]).2.info.links,.int .i64 (Z0 S l[i]).2.info.size,.str (Z0 S l[i]).2.info.to,lv3]) (Zj Zq (l.take (i+1))).2:=by rw[stake];exact hos.add rfl ⟨dv2,nv2,lv3,rfl,b1,b2,b3⟩
     generalize hc2:(Z0 S l[i]).2=R at*;by_cases h0:i=0
     . have og:Ji 31 os i 10= .nS:=by unfold Ji;rw[if_pos h0]
       have oh:Kb 31 i=[]:=by unfold Kb;rw[if_pos h0]
       have os0:os=[]:=Zf7 (by omega);have og2:∀c:List V,Ji 31 (os++c) (i+1) 10= .gS 0 31 c 1 10:=fun c=>by rw[os0,h0];rfl
       have oh2:Kb 31 (i+1)=[(31,.grow 1)]:=by rw[h0];rfl
       have ap:=fun g hg=>Qmd (f:=6) (d:=31) (g:=g) (cs:=[.int .i64 R.err,.int .i64 R.id,dv2,nv2,.int .i64 R.info.obj,.int .u8 R.info.kind,.int .i64 R.info.links,.int .i64 R.info.size,.str R.info.to,lv3]) Tryz.underlying32 Qow Qkp zc30 rfl (by decide) rfl rfl rfl rfl hg;rw[og,oh];simp only[wA,↓Qc,simprocAttr,Qo,x1,x2,x3,y1,y2,y3,z1,z2,z3,s1,s2,s3,Qf,V.pure,Zgp,ta,wH,wB];refine W.opsT (by kernel_rfl) ?_;simp only[wA,↓Qc,simprocAttr,Qo,x1,x2,x3,y1,y2,y3,z1,z2,z3,s1,s2,s3,Qf,V.pure,Zgp,Tryz.underlying32,Qu,show Qv.mt 6 30=false from rfl,↓ap,w1,ta,wH,wB];exact W.done ⟨i+1,⟨_,pv2,lv2,hv2,cs2,by rw[og2];rfl,by omega,hos2,by rw[hlen2];exact h',by rw[hlen2,oh2];rfl⟩,by omega⟩
     . have og:Ji 31 os i 10= .gS 0 31 os i 10:=by unfold Ji;rw[if_neg h0]
       have oh:Kb 31 i=[(31,.grow i)]:=by unfold Kb;rw[if_neg h0]
       have og2:∀c:List V,Ji 31 (os++c) (i+1) 10= .gS 0 31 (os++c) (i+1) 10:=fun c=>by unfold Ji;rw[if_neg (by omega)]
       have oh2:Kb 31 (i+1)=[(31,.grow (i+1))]:=by unfold Kb;rw[if_neg (by omega)]
       have scl:([.int .i64 R.err,.int .i64 R.id,dv2,nv2,.int .i64 R.info.obj,.int .u8 R.info.kind,.int .i64 R.info.links,.int .i64 R.info.size,.str R.info.to,lv3]).all V.scalar=true:=by simp only[Zht,y1,y2,y3];rfl
       have ap:=fun g hg=>Qrg (f:=6) (d:=31) (k:=31) (m:=i) (c0:=os) (g:=g) (cs:=[.int .i64 R.err,.int .i64 R.id,dv2,nv2,.int .i64 R.info.obj,.int .u8 R.info.kind,.int .i64 R.info.links,.int .i64 R.info.size,.str R.info.to,lv3]) Tryz.underlying32 Qow Qkp zc30 rfl (by decide) rfl scl (by omega) hg;rw[og,oh];simp only[wA,↓Qc,simprocAttr,Qo,x1,x2,x3,y1,y2,y3,z1,z2,z3,s1,s2,s3,Qf,V.pure,Zgp,ta,wH,wB];refine W.opsT (by kernel_rfl) ?_;simp only[wA,↓Qc,simprocAttr,Qo,x1,x2,x3,y1,y2,y3,z1,z2,z3,s1,s2,s3,Qf,V.pure,Zgp,Tryz.underlying32,Qu,show Qv.mt 6 30=false from rfl,↓ap,w1,ta,wH,wB];exact W.done ⟨i+1,⟨_,pv2,lv2,hv2,cs2,by rw[og2];rfl,by omega,hos2,by rw[hlen2];exact h',by rw[hlen2,oh2];rfl⟩,by omega⟩
   . have e:i=l.length:=by omega
     subst e;have c1:decide ((l.length:Int)<l.length)=false:=Zih (by omega);rw[Zg7] at hos hk40;simp only[wA,↓Qc,simprocAttr,Qzc,c1,len,sv,ta,wH,wB];refine W.done ?_;have hf:=fun(g:Get) (m:Nat)=>hos.frz g m;obtain⟨r,f1,f2⟩:∃r,(∀(g:Get),frz g 11 (Ji 31 os l.length 10)=some r)/\Ql 10 r os l.length:=by
      by_cases h0:l.length=0
      . have os0:os=[]:=Zf7 (by omega);exact⟨.nS,fun g=>by unfold Ji;rw[if_pos h0];rfl,by rw[h0,os0];exact Ql.nil⟩
      . refine⟨.iS os l.length false,fun g=>?_,Ql.mk (by omega)⟩;unfold Ji;rw[if_neg h0];show(frzL (frz g 10) os).map _=_;rw[hf g 8];rfl
     generalize Ji 31 os l.length 10=ov at*;simp only[wA,↓Qc,simprocAttr,ta,wH,wB];refine W.done (Zg.ret (v:= .tuple [ov,.int .i64 0]) (v' := .tuple [r,.int .i64 0]) rfl ?_ ⟨_,os,rfl,by rw[hk40];exact f2,hos⟩);show(frzL (frz _ 11) _).map V.tuple=_;simp only[frzL,f1];rfl
end Go.Proofs.YtmapmgfiamfocaaGreat
namespace Go.Mod
deriving instance DecidableEq for Qkx
def Xw(r o:Zi):Bool:=decide (r.err=o.err)&&decide (r.id=o.id)&&decide (r.data=o.data)&&decide (r.names=o.names)&&decide (r.info=o.info)&&decide (r.lines=o.lines)
theorem Qjb(r:Zi):Xw r r=true:=by simp[Xw]
end Go.Mod
namespace Go.Proofs.YtmapmgfiamfocaaGreat
open Go.AM Go.Mod
attribute [local irreducible] U W
abbrev Qny(i:Qkx):List V:=[.int .i64 i.obj,.int .u8 i.kind,.int .i64 i.links,.int .i64 i.size,.str i.to]
theorem Q7n{x y:Operand}(i j:Qkx):X7 Tryz.prog .neq 27 x y (.agg (Qny i)) (.agg (Qny j))=some (.bool (!decide (i=j))):=by
 have hg:(Tryz.prog).eqGuardType (Tryz.prog).depth 27=false:=by kernel_rfl
 have hs:(Tryz.prog).stoodInHeld 27=false:=by kernel_rfl
 obtain⟨a,b,c,d,e⟩:=i;obtain⟨a',b',c',d',e'⟩:=j;simp only[Qkx.mk.injEq];simp[X7,Qjr,Tryz.underlying27,hg,eqV,hs,Qdc,Qec,Tryz.underlying3,Tryz.underlying5,Tryz.underlying9,sz3,sz5,sz9,Qsb,Qr1,Qri];have b1:∀x y:Int,(x==y)=decide (x=y):=fun x y=>by by_cases h:x=y<;>simp[h]
 have b5:(e==e')=decide (e=e'):=by by_cases h:e=e' <;>simp[h]
 rw[b1,b1,b1,b1,b5];by_cases h1:a=a' <;>by_cases h2:b=b' <;>by_cases h3:c=c' <;>by_cases h4:d=d' <;>by_cases h5:e=e' <;>simp[h1,h2,h3,h4,h5]
theorem Q5b(v w:V)(a b:List Int)(hv:Ql 1 v (a.map (V.int .u8)) a.length)(hw:Ql 1 w (b.map (V.int .u8)) b.length)(ha:a.length<=100000)(hb:b.length<=100000):Fz Tryz.prog Qv 12 [v,w] fun x=>x= .bool (decide (a=b)):=by
 refine Jx Tryz.func12 rfl ?_;have s1:=Ql.scalar hv;have s2:=Ql.scalar hw;have l1:=hv.len Tryz.underlying24;have l2:=hw.len Tryz.underlying24;by_cases hl:a.length=b.length
 . have e1:((a.length:Int) !=(b.length:Int))=false:=by simp[hl]
   simp only[wA,↓Qc,simprocAttr,Tryz.ntmps12,ta,wH,wB,s1,s2,l1,l2,e1];refine W.ul ?_;refine W.loop (fun(i:Nat) t H=>∃x5 x14 x15 x16 x17 x18 x19 x20 x21 x22 x23 x24 x25,t=[v,w,.bad,.bad,.bool false,x5,v,.int .i64 a.length,w,.int .i64 b.length,.bool false,v,.int .i64 a.length,.int .i64 i,x14,x15,x16,x17,x18,x19,x20,x21,x22,x23,x24,x25]/\H=[[]]/\i<=a.length/\a.take i=b.take i) (fun i=>a.length-i) ?_ 0 ⟨_,_,_,_,_,_,_,_,_,_,_,_,_,rfl,rfl,by omega,rfl⟩ rfl;rintro i t H ⟨x5,x14,x15,x16,x17,x18,x19,x20,x21,x22,x23,x24,x25,rfl,rfl,hi,he⟩;refine⟨_,_,rfl,?_⟩;have key:i<a.length\/¬i<a.length:=Classical.em _;rcases key with h|h
   . have h' :i<b.length:=by omega
     have c1:decide ((i:Int)<a.length)=true:=Zig (by omega);have w1:(IntKind.i64).wrap ((i:Int)+1)=((i+1:Nat):Int):=by rw[wrap_i64]<;>omega
     have at1:=hv.at (k:= .i64) Tryz.underlying24 sz5 (by decide) (i:=(i:Int)) (by omega) (by omega);have at2:=hw.at (k:= .i64) Tryz.underlying24 sz5 (by decide) (i:=(i:Int)) (by omega) (by omega);have g1:(a.map (V.int .u8))[(i:Int).toNat*1]?=some (V.int .u8 a[i]):=by simp[h]
     have g2:(b.map (V.int .u8))[(i:Int).toNat*1]?=some (V.int .u8 b[i]):=by simp[h']
     have g3:(a.map (V.int .u8))[(i:Int).toNat]?=some (V.int .u8 a[i]):=by simp[h]
     have g4:(b.map (V.int .u8))[(i:Int).toNat]?=some (V.int .u8 b[i]):=by simp[h']
     by_cases q:a[i]=b[i]
     . have q1:(a[i] !=b[i])=false:=by simp[q]
       have q2:(a[i]==b[i])=true:=by simp[q]
       simp only[wA,↓Qc,simprocAttr,c1,at1,at2,g1,g2,g3,g4,q1,q2,Zhf,Zgo,s1,s2,ta,wH,wB];refine W.opsK (by kernel_rfl) ?_;simp only[wA,↓Qc,simprocAttr,w1];exact W.done ⟨i+1,⟨_,_,_,_,_,_,_,_,_,_,_,_,_,rfl,rfl,by omega,by rw[Zg6,Zg6,he,Ze3 h,Ze3 h',q]⟩,by omega⟩
     . have q1:(a[i] !=b[i])=true:=by simp[q]
       have q2:(a[i]==b[i])=false:=by simp[q]
       simp only[wA,↓Qc,simprocAttr,c1,at1,at2,g1,g2,g3,g4,q1,q2,Zhf,Zgo,s1,s2,ta,wH,wB];refine W.opsK (by kernel_rfl) ?_;simp only[wA,↓Qc,simprocAttr];refine W.done ?_;simp only[wA,↓Qc,simprocAttr];refine W.done (Zg.ret rfl rfl ?_);have hne:¬a=b:=fun e=>q (by subst e;rfl);rw[Zih hne];rfl
   . have c1:decide ((i:Int)<a.length)=false:=Zih (by omega);simp only[wA,↓Qc,simprocAttr,c1,ta,wH];refine W.done ?_;simp only[wA,↓Qc,simprocAttr];refine W.done (Zg.ret rfl rfl ?_);have heq:a=b:=by rwa[Zhi (by omega),Zhi (by omega)] at he
     rw[Zig heq];rfl
 . have e1:((a.length:Int) !=(b.length:Int))=true:=by simp;omega
   simp only[wA,↓Qc,simprocAttr,Tryz.ntmps12,ta,wH,wB,s1,s2,l1,l2,e1];refine W.done (Zg.ret rfl rfl ?_);have hne:¬a=b:=fun e=>hl (by rw[e]);rw[Zih hne];rfl
theorem Q7l(v w:V)(a b:List Qq)(hv:Ql 1 v (a.map (V.str)) a.length)(hw:Ql 1 w (b.map (V.str)) b.length)(ha:a.length<=100000)(hb:b.length<=100000):Fz Tryz.prog Qv 13 [v,w] fun x=>x= .bool (decide (a=b)):=by
 refine Jx Tryz.func13 rfl ?_;have s1:=Ql.scalar hv;have s2:=Ql.scalar hw;have l1:=hv.len Tryz.underlying25;have l2:=hw.len Tryz.underlying25;by_cases hl:a.length=b.length
 . have e1:((a.length:Int) !=(b.length:Int))=false:=by simp[hl]
   simp only[wA,↓Qc,simprocAttr,Tryz.ntmps13,ta,wH,wB,s1,s2,l1,l2,e1];refine W.ul ?_;refine W.loop (fun(i:Nat) t H=>∃x5 x14 x15 x16 x17 x18 x19 x20 x21 x22 x23 x24 x25,t=[v,w,.bad,.bad,.bool false,x5,v,.int .i64 a.length,w,.int .i64 b.length,.bool false,v,.int .i64 a.length,.int .i64 i,x14,x15,x16,x17,x18,x19,x20,x21,x22,x23,x24,x25]/\H=[[]]/\i<=a.length/\a.take i=b.take i) (fun i=>a.length-i) ?_ 0 ⟨_,_,_,_,_,_,_,_,_,_,_,_,_,rfl,rfl,by omega,rfl⟩ rfl;rintro i t H ⟨x5,x14,x15,x16,x17,x18,x19,x20,x21,x22,x23,x24,x25,rfl,rfl,hi,he⟩;refine⟨_,_,rfl,?_⟩;have key:i<a.length\/¬i<a.length:=Classical.em _;rcases key with h|h
   . have h' :i<b.length:=by omega
     have c1:decide ((i:Int)<a.length)=true:=Zig (by omega);have w1:(IntKind.i64).wrap ((i:Int)+1)=((i+1:Nat):Int):=by rw[wrap_i64]<;>omega
     have at1:=hv.at (k:= .i64) Tryz.underlying25 sz9 (by decide) (i:=(i:Int)) (by omega) (by omega);have at2:=hw.at (k:= .i64) Tryz.underlying25 sz9 (by decide) (i:=(i:Int)) (by omega) (by omega);have g1:(a.map (V.str))[(i:Int).toNat*1]?=some (V.str a[i]):=by simp[h]
     have g2:(b.map (V.str))[(i:Int).toNat*1]?=some (V.str b[i]):=by simp[h']
     have g3:(a.map (V.str))[(i:Int).toNat]?=some (V.str a[i]):=by simp[h]
     have g4:(b.map (V.str))[(i:Int).toNat]?=some (V.str b[i]):=by simp[h']
     by_cases q:a[i]=b[i]
     . have q1:(a[i] !=b[i])=false:=by simp[q]
       have q2:(a[i]==b[i])=true:=by simp[q]
       simp only[wA,↓Qc,simprocAttr,c1,at1,at2,g1,g2,g3,g4,q1,q2,Zhf,Zgo,s1,s2,ta,wH,wB];refine W.opsK (by kernel_rfl) ?_;simp only[wA,↓Qc,simprocAttr,w1];exact W.done ⟨i+1,⟨_,_,_,_,_,_,_,_,_,_,_,_,_,rfl,rfl,by omega,by rw[Zg6,Zg6,he,Ze3 h,Ze3 h',q]⟩,by omega⟩
     . have q1:(a[i] !=b[i])=true:=by simp[q]
       have q2:(a[i]==b[i])=false:=by simp[q]
       simp only[wA,↓Qc,simprocAttr,c1,at1,at2,g1,g2,g3,g4,q1,q2,Zhf,Zgo,s1,s2,ta,wH,wB];refine W.opsK (by kernel_rfl) ?_;simp only[wA,↓Qc,simprocAttr];refine W.done ?_;simp only[wA,↓Qc,simprocAttr];refine W.done (Zg.ret rfl rfl ?_);have hne:¬a=b:=fun e=>q (by subst e;rfl);rw[Zih hne];rfl
   . have c1:decide ((i:Int)<a.length)=false:=Zih (by omega);simp only[wA,↓Qc,simprocAttr,c1,ta,wH];refine W.done ?_;simp only[wA,↓Qc,simprocAttr];refine W.done (Zg.ret rfl rfl ?_);have heq:a=b:=by rwa[Zhi (by omega),Zhi (by omega)] at he
     rw[Zig heq];rfl
 . have e1:((a.length:Int) !=(b.length:Int))=true:=by simp;omega
   simp only[wA,↓Qc,simprocAttr,Tryz.ntmps13,ta,wH,wB,s1,s2,l1,l2,e1];refine W.done (Zg.ret rfl rfl ?_);have hne:¬a=b:=fun e=>hl (by rw[e]);rw[Zih hne];rfl
theorem Q59(v w:V)(a b:List Int)(hv:Ql 1 v (a.map (V.int .i64)) a.length)(hw:Ql 1 w (b.map (V.int .i64)) b.length)(ha:a.length<=100000)(hb:b.length<=100000):Fz Tryz.prog Qv 14 [v,w] fun x=>x= .bool (decide (a=b)):=by
 refine Jx Tryz.func14 rfl ?_;have s1:=Ql.scalar hv;have s2:=Ql.scalar hw;have l1:=hv.len Tryz.underlying28;have l2:=hw.len Tryz.underlying28;by_cases hl:a.length=b.length
 . have e1:((a.length:Int) !=(b.length:Int))=false:=by simp[hl]
   simp only[wA,↓Qc,simprocAttr,Tryz.ntmps14,ta,wH,wB,s1,s2,l1,l2,e1];refine W.ul ?_;refine W.loop (fun(i:Nat) t H=>∃x5 x14 x15 x16 x17 x18 x19 x20 x21 x22 x23 x24 x25,t=[v,w,.bad,.bad,.bool false,x5,v,.int .i64 a.length,w,.int .i64 b.length,.bool false,v,.int .i64 a.length,.int .i64 i,x14,x15,x16,x17,x18,x19,x20,x21,x22,x23,x24,x25]/\H=[[]]/\i<=a.length/\a.take i=b.take i) (fun i=>a.length-i) ?_ 0 ⟨_,_,_,_,_,_,_,_,_,_,_,_,_,rfl,rfl,by omega,rfl⟩ rfl;rintro i t H ⟨x5,x14,x15,x16,x17,x18,x19,x20,x21,x22,x23,x24,x25,rfl,rfl,hi,he⟩;refine⟨_,_,rfl,?_⟩;have key:i<a.length\/¬i<a.length:=Classical.em _;rcases key with h|h
   . have h' :i<b.length:=by omega
     have c1:decide ((i:Int)<a.length)=true:=Zig (by omega);have w1:(IntKind.i64).wrap ((i:Int)+1)=((i+1:Nat):Int):=by rw[wrap_i64]<;>omega
     have at1:=hv.at (k:= .i64) Tryz.underlying28 sz3 (by decide) (i:=(i:Int)) (by omega) (by omega);have at2:=hw.at (k:= .i64) Tryz.underlying28 sz3 (by decide) (i:=(i:Int)) (by omega) (by omega);have g1:(a.map (V.int .i64))[(i:Int).toNat*1]?=some (V.int .i64 a[i]):=by simp[h]
     have g2:(b.map (V.int .i64))[(i:Int).toNat*1]?=some (V.int .i64 b[i]):=by simp[h']
     have g3:(a.map (V.int .i64))[(i:Int).toNat]?=some (V.int .i64 a[i]):=by simp[h]
     have g4:(b.map (V.int .i64))[(i:Int).toNat]?=some (V.int .i64 b[i]):=by simp[h']
     by_cases q:a[i]=b[i]
     . have q1:(a[i] !=b[i])=false:=by simp[q]
       have q2:(a[i]==b[i])=true:=by simp[q]
       simp only[wA,↓Qc,simprocAttr,c1,at1,at2,g1,g2,g3,g4,q1,q2,Zhf,Zgo,s1,s2,ta,wH,wB];refine W.opsK (by kernel_rfl) ?_;simp only[wA,↓Qc,simprocAttr,w1];exact W.done ⟨i+1,⟨_,_,_,_,_,_,_,_,_,_,_,_,_,rfl,rfl,by omega,by rw[Zg6,Zg6,he,Ze3 h,Ze3 h',q]⟩,by omega⟩
     . have q1:(a[i] !=b[i])=true:=by simp[q]
       have q2:(a[i]==b[i])=false:=by simp[q]
       simp only[wA,↓Qc,simprocAttr,c1,at1,at2,g1,g2,g3,g4,q1,q2,Zhf,Zgo,s1,s2,ta,wH,wB];refine W.opsK (by kernel_rfl) ?_;simp only[wA,↓Qc,simprocAttr];refine W.done ?_;simp only[wA,↓Qc,simprocAttr];refine W.done (Zg.ret rfl rfl ?_);have hne:¬a=b:=fun e=>q (by subst e;rfl);rw[Zih hne];rfl
   . have c1:decide ((i:Int)<a.length)=false:=Zih (by omega);simp only[wA,↓Qc,simprocAttr,c1,ta,wH];refine W.done ?_;simp only[wA,↓Qc,simprocAttr];refine W.done (Zg.ret rfl rfl ?_);have heq:a=b:=by rwa[Zhi (by omega),Zhi (by omega)] at he
     rw[Zig heq];rfl
 . have e1:((a.length:Int) !=(b.length:Int))=true:=by simp;omega
   simp only[wA,↓Qc,simprocAttr,Tryz.ntmps14,ta,wH,wB,s1,s2,l1,l2,e1];refine W.done (Zg.ret rfl rfl ?_);have hne:¬a=b:=fun e=>hl (by rw[e]);rw[Zih hne];rfl
end Go.Proofs.YtmapmgfiamfocaaGreat
namespace Go.Proofs.YtmapmgfiamfocaaGreat
open Go.AM Go.Mod
attribute [local irreducible] U W
theorem Q3o{x y:Operand}(i j:Qkx):X7 Tryz.prog .eql 27 x y (.agg (Qny i)) (.agg (Qny j))=some (.bool (decide (i=j))):=by
 have hg:(Tryz.prog).eqGuardType (Tryz.prog).depth 27=false:=by kernel_rfl
 have hs:(Tryz.prog).stoodInHeld 27=false:=by kernel_rfl
 obtain⟨a,b,c,d,e⟩:=i;obtain⟨a',b',c',d',e'⟩:=j;simp only[Qkx.mk.injEq];simp[X7,Qjr,Tryz.underlying27,hg,eqV,hs,Qdc,Qec,Tryz.underlying3,Tryz.underlying5,Tryz.underlying9,sz3,sz5,sz9,Qsb,Qr1,Qri];have b1:∀x y:Int,(x==y)=decide (x=y):=fun x y=>by by_cases h:x=y<;>simp[h]
 have b5:(e==e')=decide (e=e'):=by by_cases h:e=e' <;>simp[h]
 rw[b1,b1,b1,b1,b5];by_cases h1:a=a' <;>by_cases h2:b=b' <;>by_cases h3:c=c' <;>by_cases h4:d=d' <;>by_cases h5:e=e' <;>simp[h1,h2,h3,h4,h5]
def toI(l:Qq):List Int:=l.map fun b=>(b.toNat:Int)
theorem Q67{a b:Qq}:toI a=toI b↔a=b:=by refine⟨fun h=>?_,fun h=>by rw[h]⟩;unfold toI at h;exact(List.map_inj_right (fun x y hxy=>UInt8.toNat_inj.1 (by omega))).1 h
theorem Q4n{v:V}{l:Qq}(h:Qx v l):Ql 1 v ((toI l).map (V.int .u8)) (toI l).length:=by
 have e:(toI l).map (V.int .u8)=Qp l:=by simp[toI,Qp]
 have e2:(toI l).length=l.length:=by simp[toI]
 rw[e,e2];exact h
theorem intsI{v:V}{l:List Int}(h:Y0 v l):Ql 1 v (l.map (V.int .i64)) l.length:=h
structure Qvn(r:Zi):Prop where
 d:r.data.length<=100000
 n:r.names.length<=100000
 l:r.lines.length<=100000
theorem Qfu(r o:Zi)(c d:List V)(hc:Y4 (.agg c) r)(hd:Y4 (.agg d) o)(fr:Qvn r)(fo:Qvn o):Fz Tryz.prog Qv 8 [.agg c,.agg d] fun x=>x= .bool (Xw r o):=by
 obtain⟨dv,nv,lv,e1,h1,h2,h3⟩:=hc;obtain⟨dv',nv',lv',e2,h1',h2',h3'⟩:=hd;injection e1 with e1;injection e2 with e2;subst e1 e2;refine Jx Tryz.func8 rfl ?_;have s1:=Qz h1;have s2:=Qz h2;have s3:=Qz h3;have s1' :=Qz h1';have s2' :=Qz h2';have s3' :=Qz h3';have qd:=Q5b dv dv' (toI r.data) (toI o.data) (Q4n h1) (Q4n h1') (by simp[toI];exact fr.d) (by simp[toI];exact fo.d);have qn:=Q7l nv nv' r.names o.names h2 h2' fr.n fo.n;have ql:=Q59 lv lv' r.lines o.lines (intsI h3) (intsI h3') fr.l fo.l;have f1:=fun(g:Get)=>Ql.frz' h1 g 11;have f2:=fun(g:Get)=>Ql.frz' h2 g 11;have f3:=fun(g:Get)=>Ql.frz' h3 g 11;have f1' :=fun(g:Get)=>Ql.frz' h1' g 11;have f2' :=fun(g:Get)=>Ql.frz' h2' g 11;have f3' :=fun(g:Get)=>Ql.frz' h3' g 11;have iq:=fun x y=>Q3o (x:=x) (y:=y) r.info o.info;simp only[Qny] at iq;by_cases k1:r.err=o.err
 . have a1:(r.err==o.err)=true:=by simp[k1]
   by_cases k2:r.id=o.id
   . have a2:(r.id==o.id)=true:=by simp[k2]
     simp only[wA,↓Qc,simprocAttr,Tryz.ntmps8,ta,wH,wB,s1,s2,s3,s1',s2',s3',a1,a2];refine W.pcall qd rfl rfl (Qt (f1 _) (Qt (f1' _) rfl)) ?_;rintro _ rfl;by_cases k3:r.data=o.data
     . have a3:decide (toI r.data=toI o.data)=true:=Zig (by rw[k3]);simp only[wA,↓Qc,simprocAttr,ta,wH,wB,s1,s2,s3,s1',s2',s3',a3];refine W.pcall qn rfl rfl (Qt (f2 _) (Qt (f2' _) rfl)) ?_;rintro _ rfl;by_cases k4:r.names=o.names
       . have a4:decide (r.names=o.names)=true:=Zig k4;by_cases k5:r.info=o.info
         . have a5:decide (r.info=o.info)=true:=Zig k5;simp only[wA,↓Qc,simprocAttr,ta,wH,wB,s1,s2,s3,s1',s2',s3',a4,iq,a5];refine W.pcall ql rfl rfl (Qt (f3 _) (Qt (f3' _) rfl)) ?_;rintro _ rfl;simp only[wA,↓Qc,simprocAttr,ta,wH,wB,s1,s2,s3,s1',s2',s3'];exact W.done (Zg.ret rfl rfl (by simp[Xw,k1,k2,k3,k4,k5]))
         . have a5:decide (r.info=o.info)=false:=Zih k5;simp only[wA,↓Qc,simprocAttr,ta,wH,wB,s1,s2,s3,s1',s2',s3',a4,iq,a5];exact W.done (Zg.ret rfl rfl (by simp[Xw,k5]))
       . have a4:decide (r.names=o.names)=false:=Zih k4;simp only[wA,↓Qc,simprocAttr,ta,wH,wB,s1,s2,s3,s1',s2',s3',a4];exact W.done (Zg.ret rfl rfl (by simp[Xw,k4]))
     . have a3:decide (toI r.data=toI o.data)=false:=Zih (fun h=>k3 (Q67.1 h));simp only[wA,↓Qc,simprocAttr,ta,wH,wB,s1,s2,s3,s1',s2',s3',a3];exact W.done (Zg.ret rfl rfl (by simp[Xw,k3]))
   . have a2:(r.id==o.id)=false:=by simp[k2]
     simp only[wA,↓Qc,simprocAttr,Tryz.ntmps8,ta,wH,wB,s1,s2,s3,s1',s2',s3',a1,a2];exact W.done (Zg.ret rfl rfl (by simp[Xw,k2]))
 . have a1:(r.err==o.err)=false:=by simp[k1]
   simp only[wA,↓Qc,simprocAttr,Tryz.ntmps8,ta,wH,wB,s1,s2,s3,s1',s2',s3',a1];exact W.done (Zg.ret rfl rfl (by simp[Xw,k1]))
end Go.Proofs.YtmapmgfiamfocaaGreat
namespace Go.Proofs.YtmapmgfiamfocaaGreat
open Go.AM Go.Mod
attribute [local irreducible] U W
set_option maxHeartbeats 2000000 in
theorem Qn5(r o:Zi)(c d:List V)(hc:Y4 (.agg c) r)(hd:Y4 (.agg d) o)(fr:Qvn r)(fo:Qvn o):Fz Tryz.prog Qv 9 [.agg c,.agg d] fun x=>x= .bool (Xw r o):=by
 obtain⟨dv,nv,lv,e1,h1,h2,h3⟩:=hc;obtain⟨dv',nv',lv',e2,h1',h2',h3'⟩:=hd;injection e1 with e1;injection e2 with e2;subst e1 e2;refine Jx Tryz.func9 rfl ?_;have s1:=Qz h1;have s2:=Qz h2;have s3:=Qz h3;have s1' :=Qz h1';have s2' :=Qz h2';have s3' :=Qz h3';have p1:=Ql.pure h1;have p2:=Ql.pure h2;have p3:=Ql.pure h3;have p1' :=Ql.pure h1';have p2' :=Ql.pure h2';have p3' :=Ql.pure h3';have tx:=fun g=>Qh9 (g:=g) h1;have tx' :=fun g=>Qh9 (g:=g) h1';have ln:=h2.len Tryz.underlying25;have ln' :=h2'.len Tryz.underlying25;have ll:=h3.len Tryz.underlying28;have ll' :=h3'.len Tryz.underlying28;have iq:=fun x y=>Q7n (x:=x) (y:=y) r.info o.info;simp only[Qny] at iq;have hfn:=fr.n;have hfl:=fr.l;have hgn:=fo.n;have hgl:=fo.l;by_cases k0:r.err=o.err
 . have a1:(r.err !=o.err)=false:=by simp[k0]
   by_cases k1:r.id=o.id
   . have a2:(r.id !=o.id)=false:=by simp[k1]
     by_cases k2:r.data=o.data
     . have a3:(r.data==o.data)=true:=by simp[k2]
       by_cases k3:r.info=o.info
       . have a5:decide (r.info=o.info)=true:=by simp[k3]
         by_cases k4:r.names.length=o.names.length
         . have a4:((r.names.length:Int) !=(o.names.length:Int))=false:=by simp[k4]
           by_cases k5:r.lines.length=o.lines.length
           . have a6:((r.lines.length:Int) !=(o.lines.length:Int))=false:=by simp[k5]
             simp only[wA,↓Qc,simprocAttr,Tryz.ntmps9,s1,s2,s3,s1',s2',s3',p1,p2,p3,p1',p2',p3',V.pure,Zgp,ta,wH,wB,tx,tx',ln,ln',ll,ll',iq,Qdm,Zhf,Zgo,a1,a2,a3,a5,a4,a6];refine W.ul ?_;refine W.loopS (kt:=[2,3,5]) rfl (fun i:Nat=>st9_4 (.iptr [.int .i64 r.err,.int .i64 r.id,dv,nv,.int .i64 r.info.obj,.int .u8 r.info.kind,.int .i64 r.info.links,.int .i64 r.info.size,.str r.info.to,lv] 0) (.iptr [.int .i64 o.err,.int .i64 o.id,dv',nv',.int .i64 o.info.obj,.int .u8 o.info.kind,.int .i64 o.info.links,.int .i64 o.info.size,.str o.info.to,lv'] 0) (.int .i64 i)) (fun _=>[[]]) (fun i=>i<=r.names.length/\r.names.take i=o.names.take i) (fun i=>r.names.length-i) ?_ 0 ⟨by omega,rfl⟩ rfl rfl;rintro i ⟨hi,he⟩;simp only[st9_4];have key:i<r.names.length\/¬i<r.names.length:=Classical.em _;rcases key with h|h
             . have h' :i<o.names.length:=by omega
               have c1:decide ((i:Int)<r.names.length)=true:=Zig (by omega);have w1:(IntKind.i64).wrap ((i:Int)+1)=((i+1:Nat):Int):=by rw[wrap_i64]<;>omega
               have at1:=h2.at (k:= .i64) Tryz.underlying25 sz9 (by decide) (i:=(i:Int)) (by omega) (by omega);have at2:=h2'.at (k:= .i64) Tryz.underlying25 sz9 (by decide) (i:=(i:Int)) (by omega) (by omega);have g1:(List.map V.str r.names)[(i:Int).toNat*1]?=some (V.str r.names[i]):=by simp[h]
               have g2:(List.map V.str o.names)[(i:Int).toNat*1]?=some (V.str o.names[i]):=by simp[h']
               have g3:(List.map V.str r.names)[(i:Int).toNat]?=some (V.str r.names[i]):=by simp[h]
               have g4:(List.map V.str o.names)[(i:Int).toNat]?=some (V.str o.names[i]):=by simp[h']
               by_cases q:r.names[i]=o.names[i]
               . have q1:(r.names[i] !=o.names[i])=false:=by simp[q]
                 have q2:(r.names[i]==o.names[i])=true:=by simp[q]
                 simp only[wA,↓Qc,simprocAttr,ln,ln',ll,ll',c1,at1,at2,g1,g2,g3,g4,q1,q2,s1,s2,s3,s1',s2',s3',p1,p2,p3,p1',p2',p3',V.pure,Zgp,ta,wH,wB,Zhf,Zgo];refine W.opsK (by kernel_rfl) ?_;simp only[wA,↓Qc,simprocAttr,w1];exact W.done ⟨i+1,rfl,rfl,⟨by omega,by rw[Zg6,Zg6,he,Ze3 h,Ze3 h',q]⟩,by omega⟩
               . have q1:(r.names[i] !=o.names[i])=true:=by simp[q]
                 have q2:(r.names[i]==o.names[i])=false:=by simp[q]
                 simp only[wA,↓Qc,simprocAttr,ln,ln',ll,ll',c1,at1,at2,g1,g2,g3,g4,q1,q2,s1,s2,s3,s1',s2',s3',p1,p2,p3,p1',p2',p3',V.pure,Zgp,ta,wH,wB,Zhf,Zgo];refine W.opsK (by kernel_rfl) ?_;simp only[wA,↓Qc,simprocAttr];refine W.done ?_;simp only[wA,↓Qc,simprocAttr];refine W.done (Zg.ret rfl rfl ?_);have hne:¬r.names=o.names:=fun e=>q (by simp only[e]);have hb:Xw r o=false:=by simp[Xw,hne]
                 rw[hb];rfl
             . have c1:decide ((i:Int)<r.names.length)=false:=Zih (by omega);have heq_names:r.names=o.names:=by rwa[Zhi (by omega),Zhi (by omega)] at he
               simp only[wA,↓Qc,simprocAttr,ln,ll,c1,s1,s2,s3,s1',s2',s3',p1,p2,p3,p1',p2',p3',V.pure,Zgp,ta,wH,wB];refine W.done ?_;simp only[wA,↓Qc,simprocAttr];refine W.ul ?_;refine W.loopS (kt:=[2,3,6]) rfl (fun i:Nat=>st9_9 (.iptr [.int .i64 r.err,.int .i64 r.id,dv,nv,.int .i64 r.info.obj,.int .u8 r.info.kind,.int .i64 r.info.links,.int .i64 r.info.size,.str r.info.to,lv] 0) (.iptr [.int .i64 o.err,.int .i64 o.id,dv',nv',.int .i64 o.info.obj,.int .u8 o.info.kind,.int .i64 o.info.links,.int .i64 o.info.size,.str o.info.to,lv'] 0) (.int .i64 i)) (fun _=>[[]]) (fun i=>i<=r.lines.length/\r.lines.take i=o.lines.take i) (fun i=>r.lines.length-i) ?_ 0 ⟨by omega,rfl⟩ rfl rfl;rintro i ⟨hi,he⟩;simp only[st9_9];have key:i<r.lines.length\/¬i<r.lines.length:=Classical.em _;rcases key with h|h
               . have h' :i<o.lines.length:=by omega
                 have c1:decide ((i:Int)<r.lines.length)=true:=Zig (by omega);have w1:(IntKind.i64).wrap ((i:Int)+1)=((i+1:Nat):Int):=by rw[wrap_i64]<;>omega
                 have at1:=h3.at (k:= .i64) Tryz.underlying28 sz3 (by decide) (i:=(i:Int)) (by omega) (by omega);have at2:=h3'.at (k:= .i64) Tryz.underlying28 sz3 (by decide) (i:=(i:Int)) (by omega) (by omega);have g1:(Jm r.lines)[(i:Int).toNat*1]?=some (V.int .i64 r.lines[i]):=by simp[h,Jm]
                 have g2:(Jm o.lines)[(i:Int).toNat*1]?=some (V.int .i64 o.lines[i]):=by simp[h',Jm]
                 have g3:(Jm r.lines)[(i:Int).toNat]?=some (V.int .i64 r.lines[i]):=by simp[h,Jm]
                 have g4:(Jm o.lines)[(i:Int).toNat]?=some (V.int .i64 o.lines[i]):=by simp[h',Jm]
                 by_cases q:r.lines[i]=o.lines[i]
                 . have q1:(r.lines[i] !=o.lines[i])=false:=by simp[q]
                   have q2:(r.lines[i]==o.lines[i])=true:=by simp[q]
                   simp only[wA,↓Qc,simprocAttr,ln,ln',ll,ll',c1,at1,at2,g1,g2,g3,g4,q1,q2,s1,s2,s3,s1',s2',s3',p1,p2,p3,p1',p2',p3',V.pure,Zgp,ta,wH,wB,Zhf,Zgo];refine W.opsK (by kernel_rfl) ?_;simp only[wA,↓Qc,simprocAttr,w1];exact W.done ⟨i+1,rfl,rfl,⟨by omega,by rw[Zg6,Zg6,he,Ze3 h,Ze3 h',q]⟩,by omega⟩
                 . have q1:(r.lines[i] !=o.lines[i])=true:=by simp[q]
                   have q2:(r.lines[i]==o.lines[i])=false:=by simp[q]
                   simp only[wA,↓Qc,simprocAttr,ln,ln',ll,ll',c1,at1,at2,g1,g2,g3,g4,q1,q2,s1,s2,s3,s1',s2',s3',p1,p2,p3,p1',p2',p3',V.pure,Zgp,ta,wH,wB,Zhf,Zgo];refine W.opsK (by kernel_rfl) ?_;simp only[wA,↓Qc,simprocAttr];refine W.done ?_;simp only[wA,↓Qc,simprocAttr];refine W.done (Zg.ret rfl rfl ?_);have hne:¬r.lines=o.lines:=fun e=>q (by simp only[e]);have hb:Xw r o=false:=by simp[Xw,hne]
                   rw[hb];rfl
               . have c1:decide ((i:Int)<r.lines.length)=false:=Zih (by omega);have heq_lines:r.lines=o.lines:=by rwa[Zhi (by omega),Zhi (by omega)] at he
                 simp only[wA,↓Qc,simprocAttr,ln,ll,c1,s1,s2,s3,s1',s2',s3',p1,p2,p3,p1',p2',p3',V.pure,Zgp,ta,wH,wB];refine W.done ?_;simp only[wA,↓Qc,simprocAttr];refine W.done (Zg.ret rfl rfl ?_);have hb:Xw r o=true:=by simp[Xw,k0,k1,k2,k3,heq_names,heq_lines]
                 rw[hb];rfl
           . have a6:((r.lines.length:Int) !=(o.lines.length:Int))=true:=by simp;omega
             simp only[wA,↓Qc,simprocAttr,Tryz.ntmps9,s1,s2,s3,s1',s2',s3',p1,p2,p3,p1',p2',p3',V.pure,Zgp,ta,wH,wB,tx,tx',ln,ln',ll,ll',iq,Qdm,Zhf,Zgo,a1,a2,a3,a5,a4,a6];refine W.done (Zg.ret rfl rfl ?_);have hb:Xw r o=false:=by simp[Xw,show¬r.lines=o.lines from fun e=>k5 (by rw[e])]
             rw[hb];rfl
         . have a4:((r.names.length:Int) !=(o.names.length:Int))=true:=by simp;omega
           simp only[wA,↓Qc,simprocAttr,Tryz.ntmps9,s1,s2,s3,s1',s2',s3',p1,p2,p3,p1',p2',p3',V.pure,Zgp,ta,wH,wB,tx,tx',ln,ln',ll,ll',iq,Qdm,Zhf,Zgo,a1,a2,a3,a5,a4];refine W.done (Zg.ret rfl rfl ?_);have hb:Xw r o=false:=by simp[Xw,show¬r.names=o.names from fun e=>k4 (by rw[e])]
           rw[hb];rfl
       . have a5:decide (r.info=o.info)=false:=by simp[k3]
         simp only[wA,↓Qc,simprocAttr,Tryz.ntmps9,s1,s2,s3,s1',s2',s3',p1,p2,p3,p1',p2',p3',V.pure,Zgp,ta,wH,wB,tx,tx',ln,ln',ll,ll',iq,Qdm,Zhf,Zgo,a1,a2,a3,a5];refine W.done (Zg.ret rfl rfl ?_);have hb:Xw r o=false:=by simp[Xw,k3]
         rw[hb];rfl
     . have a3:(r.data==o.data)=false:=by simp[k2]
       simp only[wA,↓Qc,simprocAttr,Tryz.ntmps9,s1,s2,s3,s1',s2',s3',p1,p2,p3,p1',p2',p3',V.pure,Zgp,ta,wH,wB,tx,tx',ln,ln',ll,ll',iq,Qdm,Zhf,Zgo,a1,a2,a3];refine W.done (Zg.ret rfl rfl ?_);have hb:Xw r o=false:=by simp[Xw,k2]
       rw[hb];rfl
   . have a2:(r.id !=o.id)=true:=by simp[k1]
     simp only[wA,↓Qc,simprocAttr,Tryz.ntmps9,s1,s2,s3,s1',s2',s3',p1,p2,p3,p1',p2',p3',V.pure,Zgp,ta,wH,wB,tx,tx',ln,ln',ll,ll',iq,Qdm,Zhf,Zgo,a1,a2];refine W.done (Zg.ret rfl rfl ?_);have hb:Xw r o=false:=by simp[Xw,k1]
     rw[hb];rfl
 . have a1:(r.err !=o.err)=true:=by simp[k0]
   simp only[wA,↓Qc,simprocAttr,Tryz.ntmps9,s1,s2,s3,s1',s2',s3',p1,p2,p3,p1',p2',p3',V.pure,Zgp,ta,wH,wB,tx,tx',ln,ln',ll,ll',iq,Qdm,Zhf,Zgo,a1];refine W.done (Zg.ret rfl rfl ?_);have hb:Xw r o=false:=by simp[Xw,k0]
   rw[hb];rfl
theorem Y4.frzA{c:List V}{r:Zi}(h:Y4 (.agg c) r)(g:Get)(m:Nat):AM.frz g (m+3) (.agg c)=some (.agg c):=by obtain⟨dv,nv,lv,e,h1,h2,h3⟩:=h;injection e with e;subst e;have f1:=Ql.frz' h1 g (m+1);have f2:=Ql.frz' h2 g (m+1);have f3:=Ql.frz' h3 g (m+1);show(frzL (AM.frz g (m+2)) _).map V.agg=_;simp only[frzL,f1,f2,f3];rfl
theorem Qo9(a b:V)(rs:List Zi)(cs ds:List V)(ha:Ql 10 a cs rs.length)(hb:Ql 10 b ds rs.length)(hc:Qah cs rs)(hd:Qah ds rs)(hs:∀r∈rs,Qvn r)(hl:rs.length<=1000):
 Fz Tryz.prog Qv 7 [a,b] fun x=>x= .bool true:=by
 refine Jx Tryz.func7 rfl ?_;have s1:=Ql.scalar ha;have s2:=Ql.scalar hb;have la:=ha.len Tryz.underlying32;have lb:=hb.len Tryz.underlying32;simp only[wA,↓Qc,simprocAttr,Tryz.ntmps7,ta,wH,wB,la,lb,s1,s2,bne_self_eq_false];refine W.ul ?_;refine W.loopS (kt:=[0,1,5]) rfl (fun i:Nat=>st7_4 a b (.int .i64 i)) (fun _=>[[]]) (fun i=>i<=rs.length) (fun i=>rs.length-i) ?_ 0 (by omega) rfl rfl;rintro i hi;simp only[st7_4];have key:i<rs.length\/¬i<rs.length:=Classical.em _;rcases key with h|h
 . have c1:decide ((i:Int)<rs.length)=true:=Zig (by omega);have w1:(IntKind.i64).wrap ((i:Int)+1)=((i+1:Nat):Int):=by rw[wrap_i64]<;>omega
   have at1:=ha.at (k:= .i64) Tryz.underlying32 Qow (by decide) (i:=(i:Int)) (by omega) (by omega);have at2:=hb.at (k:= .i64) Tryz.underlying32 Qow (by decide) (i:=(i:Int)) (by omega) (by omega);have x1:=hc.at_ (Ze3 h);have x2:=hd.at_ (Ze3 h);have rd1:Zf Tryz.prog 30 cs ((i:Int).toNat*10)=some (.agg ((cs.drop (i*10)).take 10)):=by rw[Jp,if_pos (by rw[hc.len];have:(i:Int).toNat=i:=rfl;omega)];rfl
   have rd2:Zf Tryz.prog 30 ds ((i:Int).toNat*10)=some (.agg ((ds.drop (i*10)).take 10)):=by rw[Jp,if_pos (by rw[hd.len];have:(i:Int).toNat=i:=rfl;omega)];rfl
   have hf:=hs _ (Zg5 h);simp only[wA,↓Qc,simprocAttr,la,lb,c1,at1,at2,↓rd1,↓rd2,s1,s2,ta,wH,wB];refine W.pcallT (Qn5 _ _ _ _ x1 x2 hf hf) rfl rfl (Qt (x1.frzA _ 9) (Qt (x2.frzA _ 9) rfl)) ?_;rintro _ rfl;simp only[wA,↓Qc,simprocAttr,Qjb,Zhf,ta,wH,wB];refine W.opsT (by kernel_rfl) ?_;simp only[wA,↓Qc,simprocAttr,w1];exact W.done ⟨i+1,rfl,rfl,by omega,by omega⟩
 . have c1:decide ((i:Int)<rs.length)=false:=Zih (by omega);simp only[wA,↓Qc,simprocAttr,la,c1,ta,wH,wB];refine W.done ?_;simp only[wA,↓Qc,simprocAttr];exact W.done (Zg.ret rfl rfl rfl)
end Go.Proofs.YtmapmgfiamfocaaGreat
namespace Go.Proofs.YtmapmgfiamfocaaGreat
open Go.AM Go.Mod
attribute [local irreducible] U W
def Qdj:List V->List Zc->Prop
 |cs,[]=>cs=[]
 |cs,m::ms=>∃dv d,cs=Qf m dv++d/\Qx dv m.data/\Qdj d ms
theorem Qdj.len:∀{ms:List Zc} {cs:List V},Qdj cs ms->cs.length=ms.length*8
 |[],cs,h=>by
  have:cs=[]:=h;subst this;rfl
 |x::rs,cs,h=>by
  obtain⟨dv,d,rfl,h1,h2⟩:=h;have:=h2.len;simp only[Zfv,Zgz,Zg2,Qf];omega
theorem Qdj.at_:∀{ms:List Zc} {cs:List V} {i:Nat} {m:Zc},Qdj cs ms->ms[i]?=some m->∃dv,(cs.drop (i*8)).take 8=Qf m dv/\Qx dv m.data
 |[],cs,i,r,h,hi=>by simp at hi
 |x::rs,cs,0,r,h,hi=>by
  obtain⟨dv,d,rfl,h1,h2⟩:=h;simp only[Zg8,Zic] at hi;subst hi;exact⟨dv,by rfl,h1⟩
 |x::rs,cs,i+1,r,h,hi=>by
  obtain⟨dv,d,rfl,h1,h2⟩:=h;simp only[Zg9] at hi;rw[show(i+1)*8=(Qf x dv).length+i*8 by simp[Qf];omega,<-Zfs,Zh1];exact Qdj.at_ h2 hi
def Qy7(c:Zc):Nat:=min c.data.length 100000+min c.name.length 100000+min c.as_.length 100000+min c.text.length 100000
def K7(l:List Zc):Nat:=(l.map Qy7).sum
def Qlf(l:List Zc)(Qdr:Nat):Bool:=(decide (Qdr<l.length)&&decide (l.length<=64))||decide (1000<l.length)||decide (30000<K7 (l.take 100))
theorem Qdj.ok:∀{l:List Zc} {cs:List V},Qdj cs l->K7 l<=30000->Qd5 cs l
 |[],cs,h,_=>h
 |x::l,cs,h,hw=>by
  obtain⟨dv,d,rfl,h1,h3⟩:=h;simp only[K7,Zfn,List.sum_cons] at hw;have hx:Qy7 x<=30000:=by omega
  unfold Qy7 at hx;exact⟨dv,d,rfl,⟨h1,by omega,by omega,by omega,by omega⟩,h3.ok (by unfold K7;omega)⟩
theorem min_i(n:Nat):(if(100000:Int)<(n:Int) then(100000:Int) else(n:Int))=((min n 100000:Nat):Int):=by split<;>omega
theorem Qno{cs:List V}{o k:Nat}{ds:List V}(h:(cs.drop o).take k=ds){j:Nat}(hj:j<k):cs[o+j]?=ds[j]?:=by rw[<-h,Zfh,if_pos hj,Zhv]
theorem Qk0{a b:Nat}(h:a+b<=1000000000):(IntKind.i64).wrap ((a:Int)+(b:Int))=((a+b:Nat):Int):=by rw[wrap_i64]<;>omega
set_option maxHeartbeats 4000000 in
theorem Q4x(v:V)(cs:List V)(l:List Zc)(hv:Ql 8 v cs l.length)(hc:Qdj cs l)(Qdr:Nat)(hm:Qdr<=1000):Fz Tryz.prog Qv 4 [v,.int .i64 Qdr] fun r=>r= .bool (Qlf l Qdr):=by
 refine Jx Tryz.func4 rfl ?_;have len:=hv.len Tryz.underlying22;simp only[wA,↓Qc,simprocAttr,Tryz.ntmps4,len];refine W.ul ?_;refine W.loopS (kt:=[0,1,5,6]) rfl (fun i:Nat=>st4_3 v (.int .i64 Qdr) (.int .i64 (K7 (l.take i))) (.int .i64 i)) (fun _=>[[]]) (fun i=>i<=l.length/\i<=100/\K7 (l.take i)<=i*400000) (fun i=>100-i) ?_ 0 ⟨by omega,by omega,by simp[K7]⟩ rfl rfl;rintro i ⟨hi1,hi2,hi3⟩;simp only[st4_3];have fin:i=l.length\/i=100->K7 (l.take i)=K7 (l.take 100):=by
  rintro(h|h)
  . subst h;rw[Zhi (Ze8 _),Zhi hi2]
  . subst h;rfl
 by_cases h:i<l.length
 . have c1:decide ((i:Int)<l.length)=true:=Zig (by omega);by_cases h2:i<100
   . have c2:decide ((i:Int)<100)=true:=Zig (by omega);have at1:=hv.at (k:= .i64) Tryz.underlying22 sz41 (by decide) (i:=(i:Int)) (by omega) (by omega);obtain⟨dv,hcell,hok⟩:=hc.at_ (Ze3 h);have f7:cs[i*8+7]?=some dv:=Qno hcell (by decide);have f4:cs[i*8+4]?=some (.str l[i].name):=Qno hcell (by decide);have f5:cs[i*8+5]?=some (.str l[i].as_):=Qno hcell (by decide);have f6:cs[i*8+6]?=some (.str l[i].text):=Qno hcell (by decide);have ld:=hok.len Tryz.underlying24;have vwA:=Qk0 (a:=min l[i].data.length 100000) (b:=min l[i].name.length 100000) (by omega);have vwB:=Qk0 (a:=min l[i].data.length 100000+min l[i].name.length 100000) (b:=min l[i].as_.length 100000) (by omega);have vwC:=Qk0 (a:=min l[i].data.length 100000+min l[i].name.length 100000+min l[i].as_.length 100000) (b:=min l[i].text.length 100000) (by omega);have vwD:=Qk0 (a:=K7 (l.take i)) (b:=min l[i].data.length 100000+min l[i].name.length 100000+min l[i].as_.length 100000+min l[i].text.length 100000) (by omega);have vwE:=Qk0 (a:=i) (b:=1) (by omega);have wt:K7 (l.take (i+1))=K7 (l.take i)+(min l[i].data.length 100000+min l[i].name.length 100000+min l[i].as_.length 100000+min l[i].text.length 100000):=by
      unfold K7;rw[Zg6,Ze3 h,Zhu,Zgw,List.sum_append];simp[Qy7]
     have ia1:∀j,cs[(i:Int).toNat*8+j]?=cs[i*8+j]?:=fun j=>rfl;simp only[wA,↓Qc,simprocAttr,len,c1,c2,ta,at1,Zhj,f7,f4,f5,f6,ld,min_i,vwA,vwB,vwC,vwD];refine W.opsK (by kernel_rfl) ?_;have vwE' :(IntKind.i64).wrap ((i:Int)+1)=((i+1:Nat):Int):=vwE;simp only[wA,↓Qc,simprocAttr,vwE'];exact W.done ⟨i+1,by rw[wt];rfl,rfl,⟨by omega,by omega,by rw[wt];omega⟩,by omega⟩
   . have c2:decide ((i:Int)<100)=false:=Zih (by omega);have e:i=100:=by omega
     have hf:=fin (.inr e);simp only[wA,↓Qc,simprocAttr,len,c1,c2];refine W.done ?_;simp only;rw[hf];have d1:decide ((l.length:Int)>(Qdr:Int))=decide (Qdr<l.length):=by
      by_cases q:Qdr<l.length
      . rw[Zig q];exact Zig (by omega)
      . rw[Zih q];exact Zih (by omega)
     have d2:decide ((l.length:Int)<=64)=decide (l.length<=64):=by
      by_cases q:l.length<=64
      . rw[Zig q];exact Zig (by omega)
      . rw[Zih q];exact Zih (by omega)
     have d3:decide ((l.length:Int)>1000)=decide (1000<l.length):=by
      by_cases q:1000<l.length
      . rw[Zig q];exact Zig (by omega)
      . rw[Zih q];exact Zih (by omega)
     have d4:decide ((K7 (l.take 100):Int)>30000)=decide (30000<K7 (l.take 100)):=by
      by_cases q:30000<K7 (l.take 100)
      . rw[Zig q];exact Zig (by omega)
      . rw[Zih q];exact Zih (by omega)
     have gb:Qlf l Qdr=((decide (Qdr<l.length)&&decide (l.length<=64))||decide (1000<l.length)||decide (30000<K7 (l.take 100))):=rfl;generalize decide (Qdr<l.length)=b1 at*;generalize decide (l.length<=64)=b2 at*;generalize decide (1000<l.length)=b3 at*;generalize decide (30000<K7 (l.take 100))=b4 at*;cases b1<;>cases b2<;>cases b3<;>cases b4
     all_goals
      simp only[wA,↓Qc,simprocAttr,len,d1,d2,d3,d4];exact W.done (Zg.ret rfl rfl (by rw[gb];rfl))
 . have c1:decide ((i:Int)<l.length)=false:=Zih (by omega);have e:i=l.length:=by omega
   have hf:=fin (.inl e);simp only[wA,↓Qc,simprocAttr,len,c1];refine W.done ?_;simp only;rw[hf];have d1:decide ((l.length:Int)>(Qdr:Int))=decide (Qdr<l.length):=by
    by_cases q:Qdr<l.length
    . rw[Zig q];exact Zig (by omega)
    . rw[Zih q];exact Zih (by omega)
   have d2:decide ((l.length:Int)<=64)=decide (l.length<=64):=by
    by_cases q:l.length<=64
    . rw[Zig q];exact Zig (by omega)
    . rw[Zih q];exact Zih (by omega)
   have d3:decide ((l.length:Int)>1000)=decide (1000<l.length):=by
    by_cases q:1000<l.length
    . rw[Zig q];exact Zig (by omega)
    . rw[Zih q];exact Zih (by omega)
   have d4:decide ((K7 (l.take 100):Int)>30000)=decide (30000<K7 (l.take 100)):=by
    by_cases q:30000<K7 (l.take 100)
    . rw[Zig q];exact Zig (by omega)
    . rw[Zih q];exact Zih (by omega)
   have gb:Qlf l Qdr=((decide (Qdr<l.length)&&decide (l.length<=64))||decide (1000<l.length)||decide (30000<K7 (l.take 100))):=rfl;generalize decide (Qdr<l.length)=b1 at*;generalize decide (l.length<=64)=b2 at*;generalize decide (1000<l.length)=b3 at*;generalize decide (30000<K7 (l.take 100))=b4 at*;cases b1<;>cases b2<;>cases b3<;>cases b4
   all_goals
    simp only[wA,↓Qc,simprocAttr,len,d1,d2,d3,d4];exact W.done (Zg.ret rfl rfl (by rw[gb];rfl))
end Go.Proofs.YtmapmgfiamfocaaGreat
namespace Go.Mod
theorem Q5u{L:Qe}(ok:Q5 L)(i:Int):(L.ob i).data.length<=3840:=by
 unfold Qe.ob;cases h:L.objs[i.toNat]? with
 |none=>simp[Qc2]
 |some o=>exact ok.data o (List.mem_of_getElem? h)
theorem Qn3(L:Qe)(e:Int)(L' :Qe):(L.turn e L').2.data=[]:=by unfold Qe.turn;split<;>rfl
theorem add_d(L:Qe)(s:Qq)(o:Bw):(L.add s o).2.data=[]:=by unfold Qe.add;split<;>rfl
theorem line_d{L:Qe}(ok:Q5 L)(k:Int)(c:Zc):(Kx k L c).2.data.length<=3840:=by
 unfold Kx;split
 . unfold Qe.make;rw[add_d];simp
 split
 . unfold Qe.point;split
   . simp[Zl]
   . rw[add_d];simp
 split
 . unfold Qe.link;simp only[Qn3];simp
 split
 . unfold Qe.unlink;simp only[Qn3];simp
 split
 . unfold Qe.rename;simp only[Qn3];simp
 split
 . unfold Qe.read;split
   . simp[Zl]
   split
   . simp[Zl]
   . have:=Q5u ok (L.follow 9 c.name).1;simp only[Qzo,List.length_take,List.length_drop];omega
 split
 . unfold Qe.write;split
   . simp[Zl]
   . simp only[Qn3];simp
 split
 . unfold Qe.cut;split
   . simp[Zl]
   . simp only[Qn3];simp
 split
 . unfold Qe.stat;split<;>simp[Zl]
 . simp[Qe.list,Zl]
theorem Q6q{S:MSt}{n:Nat}(ok:J1 S n)(c:Zc):(Z0 S c).2.data.length<=3840:=by
 unfold Z0;split
 . have:(Q2 S c).2.data=[]:=by
    unfold Q2
    repeat' split
    . unfold Qng;split<;>rfl
    . unfold Qdf;repeat' split
      all_goals rfl
    . unfold Qan;repeat' split
      all_goals rfl
    . unfold Yq;repeat' split
      all_goals rfl
    . unfold Qca;repeat' split
      all_goals rfl
    . unfold Y3;repeat' split
      all_goals rfl
    . unfold Qcc;repeat' split
      all_goals rfl
    . unfold Xx;repeat' split
      all_goals rfl
    . rfl
    . unfold Bz;repeat' split
      all_goals rfl
    . rfl
   rw[this];simp
 . split
   . simp[Zl]
   . split
     . simp[Zl]
     . rename_i L hL;split
       . simp[Zl]
       . split
         . simp[Zl]
         . exact line_d (ok.line hL) _ _
end Go.Mod
namespace Go.Proofs.YtmapmgfiamfocaaGreat
open Go.AM Go.Mod
attribute [local irreducible] U W
theorem Qu4:∀(l:List Zc) (S:MSt) (n:Nat),J1 S n->n+l.length<=1000->∀r∈(Zj S l).2,Qvn r
 |[],_,_,_,_,r,h=>by cases h
 |c::l,S,n,ok,hn,r,h=>by
  simp only[Zgz] at hn;rcases Zfi.1 h with rfl|h
  . have h1:=Q5j ok (by omega) c;have h2:=Q6q ok c;exact⟨by omega,by have:=h1.1;omega,by have:=h1.2;omega⟩
  . exact Qu4 l _ (n+1) (Qtb ok c) (by omega) r h
theorem Q51{H:Qg}{k:Nat}{v:V}{l:Qq}(h:Qnc H k v l)(m:Nat):∃w,AM.frz (Qd H) (m+3) v=some w/\Qx w l:=by
 rcases h with⟨_,h⟩|⟨rfl,rfl⟩|⟨f,s,_,rfl,rfl,h⟩|⟨f,s,_,rfl,h⟩
 . exact⟨v,Ql.frz' h _ (m+2),h⟩
 . exact⟨.nS,rfl,Qx.nil⟩
 . refine⟨.iS [] 0 true,?_,⟨rfl,.inr ⟨_,rfl⟩⟩⟩;simp only[AM.frz,h];rfl
 . refine⟨.iS (Qp l) l.length false,?_,Ql.mk (by rw[Ja];omega)⟩;show(match Qd H f s with
    |some (.mgrow xs k)=>if k=l.length/\xs.length=l.length*1 then(frzL (AM.frz (Qd H) (m+2)) xs).map fun cs=>V.iS cs l.length false else none
    |_=>none)=_
   rw[h];simp only[true_and];rw[if_pos (by rw[Ja];omega),show frzL (AM.frz (Qd H) (m+2)) (Qp l)=some (Qp l) from Qeq _ (m+1) l];rfl
theorem Qui{H:Qg}{k:Nat}{c:List V}{r:Zi}(h:Qdg H k (.agg c) r)(m:Nat):∃d,frzL (AM.frz (Qd H) (m+3)) c=some d/\d.length=10/\Y4 (.agg d) r:=by obtain⟨dv,nv,lv,e,h1,h2,h3⟩:=h;injection e with e;subst e;obtain⟨w,f1,hw⟩:=Q51 h1 m;have f2:=Ql.frz' h2 (Qd H) (m+2);have f3:=Ql.frz' h3 (Qd H) (m+2);refine⟨[.int .i64 r.err,.int .i64 r.id,w,nv,.int .i64 r.info.obj,.int .u8 r.info.kind,.int .i64 r.info.links,.int .i64 r.info.size,.str r.info.to,lv],?_,rfl,w,nv,lv,rfl,hw,h2,h3⟩;simp only[frzL,f1,f2,f3];rfl
theorem Qwb{H:Qg}{lo:Nat}:∀{rs:List Zi} {cs:List V},cs.length=rs.length*10->(∀(i:Nat) (r:Zi),rs[i]?=some r->Qdg H lo (.agg ((cs.drop (i*10)).take 10)) r)->∀m,∃ds,frzL (AM.frz (Qd H) (m+3)) cs=some ds/\Qah ds rs
 |[],cs,hl,h,m=>by
  have:cs=[]:=Zf7 (by simpa using hl);subst this;exact⟨[],rfl,rfl⟩
 |r::rs,cs,hl,h,m=>by
  simp only[Zgz] at hl;have h0:=h 0 r rfl;rw[Nat.zero_mul,Zhm] at h0;obtain⟨d,f1,hd,hr⟩:=Qui h0 m;obtain⟨ds,f2,hds⟩:=Qwb (rs:=rs) (cs:=cs.drop 10) (by rw[Zga];omega) (fun i r hi=>by
   have:=h (i+1) r (by simpa using hi);rw[Zfs]
   rwa[show 10+i*10=(i+1)*10 by omega]) m
  refine⟨d++ds,?_,⟨d,ds,rfl,hd,hr,hds⟩⟩;have:=Qb2 f1 f2;rwa[Zft] at this
theorem Quv{H:Qg}{lo:Nat}{ov:V}{rs:List Zi}(h:OutR H lo ov rs)(m:Nat):∃w ds,AM.frz (Qd H) (m+4) ov=some w/\Ql 10 w ds rs.length/\Qah ds rs:=by
 rcases h with⟨rfl,rfl⟩|⟨os,f,s,h0,rfl,h⟩
 . exact⟨.nS,[],rfl,Ql.nil,rfl⟩
 . obtain⟨ds,f1,hd⟩:=Qwb h.len h.at_ m;refine⟨.iS ds rs.length false,ds,?_,Ql.mk hd.len,hd⟩;show(frzL (AM.frz (Qd H) (m+3)) os).map _=_;rw[f1];rfl
theorem frz_b{g:Get}{n:Nat}{v:V}{b:Bool}(h:AM.frz g (n+1) v=some (.bool b)):v= .bool b:=by
 cases v with
 |bool b=>simp only[AM.frz] at h;cases h;rfl
 |_=>exfalso;simp only[AM.frz] at h;revert h;(repeat' split)<;>simp
theorem Qh4{f:FuncId}{args:List V}{b:Bool}(h:Fz Tryz.prog Qv f args fun x=>x= .bool b):Qum Tryz.prog Qv f args fun x=>x= .bool b:=by obtain⟨v,H',v',h1,h2,rfl⟩:=h;have:=frz_b (n:=11) h2;subst this;exact⟨_,H',_,h1,rfl,rfl⟩
theorem Q4p{l:List Zc}{Qdr:Nat}(h:Qlf l Qdr=false):l.length<=1000/\K7 (l.take 100)<=30000/\(l.length<=Qdr\/64<l.length):=by unfold Qlf at h;simp only[Zf5,Bool.and_eq_false_iff,decide_eq_false_iff_not] at h;omega
theorem Q63(v:V)(cs:List V)(l:List Zc)(hv:Ql 8 v cs l.length)(hc0:¬64<l.length->Qd5 cs l):Fz Tryz.prog Qv 5 [v] fun r=>∃w ds,r= .tuple [w,.int .i64 (if 64<l.length then 4 else 0)]/\Ql 10 w ds (if 64<l.length then[] else(Zj Zq l).2).length/\Qah ds (if 64<l.length then[] else(Zj Zq l).2):=by refine Fz.of_cr ((Qy6 [] (by simp) v cs l hv hc0).mono ?_);rintro r H' ⟨ov,rfl,ho⟩;obtain⟨w,ds,f1,f2,f3⟩:=Quv ho 7;refine⟨.tuple [w,.int .i64 (if 64<l.length then 4 else 0)],?_,w,ds,rfl,f2,f3⟩;show(frzL (AM.frz _ 11) _).map V.tuple=_;simp only[frzL,f1];rfl
end Go.Proofs.YtmapmgfiamfocaaGreat
end
