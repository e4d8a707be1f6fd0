/- This file holds in one the texts E2, E3, E4, E5, E6, E7, E8, DM, E9, E10, E11, F1, F4, F5, F8, F12; each says at its head what it proves. -/
import Derived.Test.YtjllfbejpjonnaaGreatDoorT16
import Derived.Test.YtjllfbejpjonnaaGreatDoorT18
import Derived.Test.YtjllfbejpjonnaaGreatDoorT21
import Derived.Test.YtjllfbejpjonnaaGreatDoorT22
import Derived.Test.YtjllfbejpjonnaaGreatDoorT23
set_option linter.unusedSimpArgs false
set_option linter.unusedVariables false
namespace Go.Proofs.YtjllfbejpjonnaaGreatDoor
section
set_option maxRecDepth 100000
open Go.AM
attribute [local irreducible] U W
theorem _root_.Go.AM.LinesC.ld{ls:List Zy}{cs:List V}{i:Nat}(h:LinesC cs ls)(hi:i<ls.length):∃dv,Qa5 dv ls[i].dead/\(∀g,ldV Tp 52 g (.iptr cs (i*13))=some (.agg (J3 ls[i] dv))):=by obtain⟨dv,h1,h2⟩:=h.at_ (Zn1 hi);refine⟨dv,h2,fun g=>?_⟩;show Q3 Tp 52 cs (i*13)=_;have:=h.len;rw[rd52,if_pos (by omega),h1]
theorem Zcb(g:Get)(n:Nat)(h:n<=281474976710656):convertV Tp g 3 44 (.int .i64 (n:Int))=some (.val (.int .u64 (n:Int)) none):=by
 have w:(IntKind.u64).wrap (n:Int)=(n:Int):=by simp only[IntKind.wrap,IntKind.bits,IntKind.signed,Zqy,Zn5,if_false];omega
 simp only[convertV,Zu3,Zu13,w]
theorem Zbr(g:Get)(n:Nat)(h:n<=281474976710656):convertV Tp g 44 3 (.int .u64 (n:Int))=some (.val (.int .i64 (n:Int)) none):=by simp only[convertV,Zu3,Zu13,wrap_i64 (n:=(n:Int)) (by omega) (by omega)]
theorem Qx7(l:Zy)(dv:V)(hd:Qa5 dv l.dead)(id:Int):Fz Tp Qg 109 [.agg (J3 l dv),.int .i64 id] fun x=>x= .int .i64 (Qdr l.id id):=by refine Zm Tryz.func109 rfl ?_;have sc:=Q4 hd;obtain⟨m,rfl,hm⟩:=(Qc2 l.id id).op (by rfl) rfl;have hm1:∀s H,_:=fun s H=>hm 109 0 s H rfl;simp only[wX,↓Qc,simprocAttr,Tryz.ntmps109,J3,sc,hm1];exact W.done (Q0.ret rfl rfl rfl)
theorem Q69(v:V)(ls:List Zy)(hv:Qid v ls)(hl:ls.length<=1000000)(id:Int):
 Fz Tp Qg 108 [v,.int .i64 id,.func (.func 109) [] []] fun x=>x= .tuple [.int .i64 (bs (B5 ls id) ls.length),.bool (Qv1 (B5 ls id) ls.length)]:=by
 refine Zm Tryz.func108 rfl ?_;obtain⟨cs,hc,hv⟩:=hv;have len:=hv.len Zu6;have sc:=Q4 hv;simp only[wX,↓Qc,simprocAttr,Tryz.ntmps108,len];refine W.ul ?_;refine W.loopS (kt:=[0,1,2,8,9,10]) rfl (fun a:Nat×Nat=>Q29 v (.int .i64 id) (.func (.func 109) [] []) (.int .i64 ls.length) (.int .i64 a.1) (.int .i64 a.2)) (fun _=>[[]])
  (fun a=>a.1<=a.2/\a.2<=ls.length/\Qjv (B5 ls id) (a.2-a.1) a.1 a.2=bs (B5 ls id) ls.length) (fun a=>a.2-a.1) ?_ (0,ls.length) ⟨by simp,by simp,rfl⟩ rfl rfl
 rintro⟨i,j⟩ ⟨hij,hj,hR⟩;simp only at hij hj hR;simp only[Q29];by_cases h:i<j
 . have c1:decide ((i:Int)<j)=true:=Zrh (by omega);have wa:(IntKind.i64).wrap ((i:Int)+j)=((i+j:Nat):Int):=by rw[wrap_i64]<;>omega
   have hm:(i+j)/2<ls.length:=by omega
   have at1:=hv.at (k:= .i64) Zu6 Qin (by decide) (i:=(((i+j)/2:Nat):Int)) (by omega) (by omega);obtain⟨dv,hd,ld⟩:=hc.ld hm;have ld' :∀g,ldV Tp 52 g (.iptr cs ((((i+j)/2:Nat):Int).toNat*13))=_:=ld;have cv1:=fun g=>Zcb g (i+j) (by omega);have cv2:=fun g=>Zbr g ((i+j)/2) (by omega);have sh:∀p q,Zq Tp .shr 44 p q (.int .u64 ((i+j:Nat):Int)) (.int .u64 1)=_:=fun p q=>shr_u1 (i+j);obtain⟨m,rfl,hm2⟩:=(Qx7 ls[(i+j)/2] dv hd id).op (by rfl) (Qa (Qks hd) rfl);have hm3:∀s H,_:=fun s H=>hm2 108 0 s H rfl;have eL:B5 ls id ((i+j)/2)=Qdr ls[(i+j)/2].id id:=by simp only[B5,Zn1 hm]
   have w1:(IntKind.i64).wrap ((((i+j)/2:Nat):Int)+1)=(((i+j)/2+1:Nat):Int):=by rw[wrap_i64]<;>omega
   rw[<-eL] at hm3;simp only[wX,↓Qc,simprocAttr,c1,wa,at1,ld',cv1,cv2,sh,hm3];refine W.ite ?_ ?_<;>intro h2<;>simp only[wX,↓Qc,simprocAttr,w1]
   . exact W.done ⟨((i+j)/2+1,j),rfl,rfl,⟨by simp only;omega,hj,by rw[<-hR,bsGo_t h h2]⟩,by simp only;omega⟩
   . exact W.done ⟨(i,(i+j)/2),rfl,rfl,⟨by simp only;omega,by simp only;omega,by rw[<-hR,bsGo_f h h2]⟩,by simp only;omega⟩
 . have c1:decide ((i:Int)<j)=false:=Zri (by omega);have e:i=j:=by omega
   subst e;have hi:i=bs (B5 ls id) ls.length:=by rw[<-hR,Nat.sub_self];rfl
   have key:Qv1 (B5 ls id) ls.length=(decide (i<ls.length)&&decide (B5 ls id i=0)):=by rw[Qv1,<-hi]
   rw[key,<-hi];simp only[wA,↓Qc,simprocAttr,c1];refine W.done ?_;by_cases h2:i<ls.length
   . have c2:decide ((i:Int)<ls.length)=true:=Zrh (by omega);have at1:=hv.at (k:= .i64) Zu6 Qin (by decide) (i:=(i:Int)) (by omega) (by omega);obtain⟨dv,hd,ld⟩:=hc.ld h2;have ld' :∀g,ldV Tp 52 g (.iptr cs ((i:Int).toNat*13))=_:=ld;obtain⟨m,rfl,hm2⟩:=(Qx7 ls[i] dv hd id).op (by rfl) (Qa (Qks hd) rfl);have hm3:∀s H,_:=fun s H=>hm2 108 0 s H rfl;have eL:B5 ls id i=Qdr ls[i].id id:=by simp only[B5,Zn1 h2]
     rw[<-eL] at hm3;have e0:(B5 ls id i==0)=decide (B5 ls id i=0):=rfl;simp only[wX,↓Qc,simprocAttr,c2,at1,ld',hm3,e0];rw[Zrh h2,Zo5];exact W.done (Q0.ret rfl rfl rfl)
   . have c2:decide ((i:Int)<ls.length)=false:=Zri (by omega);simp only[wX,↓Qc,simprocAttr,c2];rw[Zri h2,Zqy];exact W.done (Q0.ret rfl rfl rfl)
theorem Qul(v:V)(ls:List Zy)(cs:List V)(hc:LinesC cs ls)(hv:Qw 13 v cs ls.length)(hl:ls.length<=1000000)(id:Int):
 Fz Tp Qg 50 [v,.int .i64 id] fun x=>x=(match Qc3 ls id with|some i=> .iptr cs (i*13)|none=> .nP):=by
 refine Zm Tryz.func50 rfl ?_;obtain⟨m,rfl,hm⟩:=(Q69 v ls ⟨cs,hc,hv⟩ hl id).op (by rfl) (Qa (hv.frz _) rfl);have hm1:∀s H,_:=fun s H=>hm 50 0 s H rfl;simp only[wX,↓Qc,simprocAttr,Tryz.ntmps50,hm1];refine W.ite ?_ ?_<;>intro h<;>simp only[wX,↓Qc,simprocAttr]
 . have h' :Qv1 (B5 ls id) ls.length=false:=by simpa using h
   exact W.done (Q0.ret rfl rfl (by simp only[Qc3,h'];rfl))
 . have h' :Qv1 (B5 ls id) ls.length=true:=by simpa using h
   have hlt:bs (B5 ls id) ls.length<ls.length:=by simp only[Qv1,Zok] at h';exact of_decide_eq_true h'.1
   have at1:=hv.at (k:= .i64) Zu6 Qin (by decide) (i:=((bs (B5 ls id) ls.length:Nat):Int)) (by omega) (by omega);simp only[wX,↓Qc,simprocAttr,at1];refine W.done (Q0.ret rfl rfl ?_);simp only[Qc3,h',if_true];rfl
theorem Qbr(x y:Operand):Zq Tp .eql 63 x y .nP .nP=some (.bool true):=by
 have hg:(Tp).eqGuardType (Tp).depth 63=false:=by kernel_rfl
 simp only[Zq,Qis,Tryz.underlying63,hg,eqV,Zn5,if_false];rfl
theorem Bp(x y:Operand)(cs:List V)(o:Nat):Zq Tp .eql 63 x y (.iptr cs o) .nP=some (.bool false):=by
 have hg:(Tp).eqGuardType (Tp).depth 63=false:=by kernel_rfl
 simp only[Zq,Qis,Tryz.underlying63,hg,eqV,Zn5,if_false];rfl
theorem kin_fz(v:V)(ls:List Zy)(hv:Qid v ls)(hl:ls.length<=1000000)(x:Zy)(dv:V)(hd:Qa5 dv x.dead):
 Fz Tp Qg 104 [v,.agg (J3 x dv)] fun y=>y= .bool (Qtm ls x):=by
 refine Zm Tryz.func104 rfl ?_;obtain⟨cs,hc,hv⟩:=hv;have sc:=Q4 hd;have sv:=Q4 hv;obtain⟨m,rfl,hm⟩:=(Qul v ls cs hc hv hl x.owner).op (by rfl) (Qa (hv.frz _) rfl);have hm1:∀s H,_:=fun s H=>hm 104 0 s H rfl;obtain⟨m,rfl,hm⟩:=(Qul v ls cs hc hv hl x.prev).op (by rfl) (Qa (hv.frz _) rfl);have hm2:∀s H,_:=fun s H=>hm 104 0 s H rfl;obtain⟨id,kind,owner,prev,txg,guid,key,root,dead⟩:=x;obtain⟨ra,rb,rc,rd,re⟩:=root;simp only at hm1 hm2 hd sc;cases hO:Qc3 ls owner with
 |none=>
  simp only[hO] at hm1;have hF:∀r,Qtm ls ⟨id,kind,owner,prev,txg,guid,key,r,dead⟩=false:=fun r=>by simp only[Qtm,Xq,hO]
  rw[hF];generalize(match Qc3 ls prev with|some i=>V.iptr cs (i*13)|none=>V.nP)=pv at hm2;simp only[wX,↓Qc,simprocAttr,Tryz.ntmps104,J3,sc,hm1,hm2,Qbr,Bp]
  repeat' ((first|refine W.guardF ?_ ?_|refine W.guardT ?_ ?_|refine W.guardXF ?_ ?_|refine W.guardXT ?_ ?_|refine W.ite ?_ ?_|refine W.opsK1 (by kernel_rfl) ?_)<;>intro h<;>simp only[wX,↓Qc,simprocAttr,h,Qbr,Bp])
  all_goals refine W.done (Q0.ret rfl rfl ?_)
  all_goals first|rfl|(simp only[*,Yf,if_true,if_false];try rfl)
 |some i=>
  have hi:=Ql3 hO;obtain⟨i1,i2,i3,i4⟩:=hc.cells hi;have hOf:Xq ls owner=some ls[i]:=by simp only[Xq,hO,Zn1 hi]
  simp only[hO] at hm1;cases hP:Qc3 ls prev with
  |none=>
   have hPf:Xq ls prev=none:=by simp only[Xq,hP]
   simp only[hP] at hm2;simp only[wX,↓Qc,simprocAttr,Tryz.ntmps104,J3,sc,hm1,hm2,Qbr,Bp,i1,i2,i3,i4]
   repeat' ((first|refine W.guardF ?_ ?_|refine W.guardT ?_ ?_|refine W.guardXF ?_ ?_|refine W.guardXT ?_ ?_|refine W.ite ?_ ?_|refine W.opsK1 (by kernel_rfl) ?_)<;>intro h<;>simp only[wX,↓Qc,simprocAttr,h,Qbr,Bp,i1,i2,i3,i4])
   all_goals refine W.done (Q0.ret rfl rfl ?_)
   all_goals first|rfl|(simp only[Qtm,hOf,hPf, *,Yf,if_true,if_false];try rfl)
  |some j=>
   have hj:=Ql3 hP;obtain⟨j1,j2,j3,j4⟩:=hc.cells hj;have hPf:Xq ls prev=some ls[j]:=by simp only[Xq,hP,Zn1 hj]
   simp only[hP] at hm2;simp only[wX,↓Qc,simprocAttr,Tryz.ntmps104,J3,sc,hm1,hm2,Qbr,Bp,i1,i2,i3,i4,j1,j2,j3,j4]
   repeat' ((first|refine W.guardF ?_ ?_|refine W.guardT ?_ ?_|refine W.guardXF ?_ ?_|refine W.guardXT ?_ ?_|refine W.ite ?_ ?_|refine W.opsK1 (by kernel_rfl) ?_)<;>intro h<;>simp only[wX,↓Qc,simprocAttr,h,Qbr,Bp,i1,i2,i3,i4,j1,j2,j3,j4])
   all_goals refine W.done (Q0.ret rfl rfl ?_)
   all_goals first|rfl|(simp only[Qtm,hOf,hPf, *,Yf,if_true,if_false];try rfl)
theorem Q3o(l:List Yb)(i:Nat)(h:i<l.length)(g:Get):ldV Tp 31 g (.iptr (Xi l) (i*5))=some (.agg l[i].cells):=by show Q3 Tp 31 (Xi l) (i*5)=_;have:=Qto l;rw[rd31,if_pos (by omega),Qwq l i h]
set_option maxHeartbeats 4000000 in
theorem Qui(v:V)(l:List Yb)(hv:Qa5 v l):Fz Tp Qg 103 [v] fun x=>x= .int .i64 (okE (Qmf l)):=by
 refine Zm Tryz.func103 rfl ?_;have len:=hv.len Zu8;simp only[wX,↓Qc,simprocAttr,Tryz.ntmps103,len];refine W.ite ?_ ?_<;>intro h<;>simp only[wX,↓Qc,simprocAttr,len]
 . exact W.done (Q0.ret rfl rfl (by simp only[Qmf,h];rfl))
 have hl:l.length<=240:=by have:=of_decide_eq_false h;omega
 have hD:Qmf l=Qhj none l:=by simp only[Qmf,h];rfl
 rw[hD];refine W.ul ?_;refine W.loop (fun(i:Nat) t H=>∃F:AM.Frame,Jg [0,8,9,10] t 0=Qve v v (.int .i64 l.length) (.int .i64 i)/\i<=l.length/\H=[F]/\(F=[]\/∃x,F=[(4,.cells x)])/\Qhj (before l i) (l.drop i)=Qhj none l) (fun i=>l.length-i) ?_ 0 ⟨_,rfl,by omega,rfl,.inl rfl,rfl⟩ rfl;rintro i t H ⟨F,ht,hi,rfl,hF,hR⟩;have hd:([F]:Heap).modify 0 (Ju fun s=>[4].contains s)=[[]]:=by rcases hF with rfl|⟨x,rfl⟩<;>rfl
 have vr:v.refs (fun f s=>f==0&&[4].contains s)=false:=hv.noRefs _;refine⟨_,_,Z7 (kt:=[0,8,9,10]) (ds:=[4]) rfl ?_ ?_,?_⟩
 . rw[ht];simp only[Qve,Qi,V.refs,vr];simp
 . rw[hd];simp only[Q2,Zg,O.refs,Qi,V.refs];simp
 rw[ht,hd];simp only[Qve];by_cases h:i<l.length
 . have c1:decide ((i:Int)<l.length)=true:=Zrh (by omega);have at1:=hv.at (k:= .i64) Zu8 sz31 (by decide) (i:=(i:Int)) (by omega) (by omega);have ld1:∀g,ldV Tp 31 g (.iptr (Xi l) ((i:Int).toNat*5))=_:=fun g=>Q3o l i h g;have w1:(IntKind.i64).wrap ((i:Int)+1)=((i+1:Nat):Int):=by rw[wrap_i64]<;>omega
   obtain⟨m,rfl,hm⟩:=(Qce l[i]).op (by rfl) rfl;have hm1:∀s H,_:=fun s H=>hm 103 0 s H rfl;have hq:=fun x y=>Qgf (x:=x) (y:=y) l[i] Bf;have hS:Qhj (before l i) (l.drop i)=if decide (l[i]=Bf)||(!(Qe5 l[i])||(match before l i with|some q=>decide (Qdr q.at_ l[i].at_>=0)|none=>false)) then false else Qhj (before l (i+1)) (l.drop (i+1)):=by
    rw[Zqt h];have e:before l (i+1)=some l[i]:=by simp only[before,Zn1 h]
    rw[e];rfl
   rw[hR] at hS;generalize hp:l[i]=p at*;obtain⟨a,b,c,d,e⟩:=p;simp only[Yb.cells,Bf] at ld1 hm1 hq hS;generalize hnx:Qhj (before l (i+1)) (l.drop (i+1))=nx at hS;cases i with
   |zero=>
    have c0:decide (((0:Nat):Int)>0)=false:=rfl;have hb0:before l 0=none:=rfl;simp only[hb0] at hS;simp only[Qmi,Qey,Qfg,Zv,Zk,Kf,nov,gd,rho,Q1,wr,Nat.reduceAdd,Nat.reduceSub,if_true,if_false,reduceIte,reduceCtorEq,Nat.reduceLT,Nat.reduceEqDiff,Nat.reduceMul,Nat.reduceLeDiff,Qgv,Int.reduceBEq,Int.reduceBNe,Int.reduceLT,Int.reduceLE,↓Qc,c1,at1,ld1,hm1,hq,c0,Xo,ta,wH,wB]
    repeat' ((first|refine W.guardF ?_ ?_|refine W.guardT ?_ ?_|refine W.guardXF ?_ ?_|refine W.guardXT ?_ ?_|refine W.ite ?_ ?_|refine W.opsK1 (by kernel_rfl) ?_)<;>intro h<;>simp only[wX,↓Qc,simprocAttr,h,hm1,hq,c0,Xo])
    all_goals first
    |(refine W.done ?_
      simp only[wA,↓Qc,simprocAttr];refine W.done (Q0.ret rfl rfl ?_);rw[hS];simp only[*,Yf,if_true,if_false,okE]
      try rfl)
    |(try simp only[wA,↓Qc,simprocAttr,w1,(rfl:(IntKind.i64).wrap 1=1)]
      refine W.done ⟨0+1,⟨_,rfl,by omega,rfl,.inr ⟨_,rfl⟩,?_⟩,by omega⟩;rw[hS,hnx];simp only[*,Yf,if_true,if_false]
      try rfl)
   |succ k=>
    have c0:decide (((k+1:Nat):Int)>0)=true:=Zrh (by omega);have wk:(IntKind.i64).wrap (((k+1:Nat):Int)-1)=((k:Nat):Int):=by rw[wrap_i64]<;>omega
    have hk:k<l.length:=by omega
    have at2:=hv.at (k:= .i64) Zu8 sz31 (by decide) (i:=(k:Int)) (by omega) (by omega);have ld2:∀g,ldV Tp 31 g (.iptr (Xi l) ((k:Int).toNat*5))=_:=fun g=>Q3o l k hk g;obtain⟨m,rfl,hm⟩:=(Qun l[k] ⟨a,b,c,d,e⟩).op (by rfl) rfl;have hm2:∀s H,_:=fun s H=>hm 103 0 s H rfl;have hb:before l (k+1)=some l[k]:=by simp only[before,Zn1 hk]
    simp only[hb] at hS;generalize hlk:l[k]=q at*;obtain⟨a',b',c',d',e'⟩:=q;simp only[Yb.cells,Bf] at ld2 hm2;simp only[wX,↓Qc,simprocAttr,c1,at1,ld1,hm1,hq,c0,Xo]
    repeat' ((first|refine W.guardF ?_ ?_|refine W.guardT ?_ ?_|refine W.guardXF ?_ ?_|refine W.guardXT ?_ ?_|refine W.ite ?_ ?_|refine W.opsK1 (by kernel_rfl) ?_)<;>intro h<;>simp only[wX,↓Qc,simprocAttr,h,hm1,hq,c0,Xo,wk,at2,ld2,hm2])
    all_goals first
    |(refine W.done ?_
      simp only[wA,↓Qc,simprocAttr];refine W.done (Q0.ret rfl rfl ?_);rw[hS];simp only[*,Yf,if_true,if_false,okE]
      try rfl)
    |(try simp only[wA,↓Qc,simprocAttr,w1,(rfl:(IntKind.i64).wrap 1=1)]
      refine W.done ⟨_,⟨_,rfl,by omega,rfl,.inr ⟨_,rfl⟩,?_⟩,by omega⟩;rw[hS,hnx];simp only[*,Yf,if_true,if_false]
      try rfl)
 . have c1:decide ((i:Int)<l.length)=false:=Zri (by omega);simp only[wA,↓Qc,simprocAttr,c1];refine W.done ?_;simp only[wA,↓Qc,simprocAttr];refine W.done (Q0.ret rfl rfl ?_);rw[<-hR,Zqe (by omega)];cases hb:before l i<;>rfl
set_option maxHeartbeats 8000000 in
theorem Qyj(v:V)(ls:List Zy)(hv:Qid v ls):Fz Tp Qg 48 [v] fun x=>x= .bool (X7 ls):=by
 refine Zm Tryz.func48 rfl ?_;have hv0:=hv;obtain⟨cs,hc,hv⟩:=hv;have len:=hv.len Zu6;have sv:=Q4 hv;simp only[wX,↓Qc,simprocAttr,Tryz.ntmps48,len];refine W.ite ?_ ?_<;>intro h<;>simp only[wX,↓Qc,simprocAttr,len]
 . exact W.done (Q0.ret rfl rfl (by simp only[X7,h];rfl))
 have hl:ls.length<=16:=by have:=of_decide_eq_false h;omega
 have hD:X7 ls=if Qba none ls then Qc9 ls ls else false:=by simp only[X7,h];rfl
 rw[hD];refine W.ul ?_;refine W.loop (fun(i:Nat) t H=>∃F:AM.Frame,Jg [0,10,11,12] t 0=Q18 v v (.int .i64 ls.length) (.int .i64 i)/\i<=ls.length/\H=[F]/\(F=[]\/∃x,F=[(4,.cells x)])/\Qba (before ls i) (ls.drop i)=Qba none ls) (fun i=>ls.length-i) ?_ 0 ⟨_,rfl,by omega,rfl,.inl rfl,rfl⟩ rfl;rintro i t H ⟨F,ht,hi,rfl,hF,hR⟩;have hd:([F]:Heap).modify 0 (Ju fun s=>[4].contains s)=[[]]:=by rcases hF with rfl|⟨x,rfl⟩<;>rfl
 have vr:v.refs (fun f s=>f==0&&[4].contains s)=false:=hv.noRefs _;refine⟨_,_,Z7 (kt:=[0,10,11,12]) (ds:=[4]) rfl ?_ ?_,?_⟩
 . rw[ht];simp only[Q18,Qi,V.refs,vr];simp
 . rw[hd];simp only[Q2,Zg,O.refs,Qi,V.refs];simp
 rw[ht,hd];simp only[Q18];by_cases h:i<ls.length
 . have c1:decide ((i:Int)<ls.length)=true:=Zrh (by omega);have at1:=hv.at (k:= .i64) Zu6 Qin (by decide) (i:=(i:Int)) (by omega) (by omega);obtain⟨dv,hdv,ld⟩:=hc.ld h;have sc:=Q4 hdv;have ld1:∀g,ldV Tp 52 g (.iptr cs ((i:Int).toNat*13))=_:=ld;have w1:(IntKind.i64).wrap ((i:Int)+1)=((i+1:Nat):Int):=by rw[wrap_i64]<;>omega
   have hS:Qba (before ls i) (ls.drop i)=if decide (ls[i].id<1)||(decide (ls[i].id>255)||((match before ls i with|some q=>decide (ls[i].id<=q.id)|none=>false)||((ls[i].kind !=1)&&(ls[i].kind !=2)))) then false else Qba (before ls (i+1)) (ls.drop (i+1)):=by
    rw[Zqt h];have e:before ls (i+1)=some ls[i]:=by simp only[before,Zn1 h]
    rw[e];rfl
   rw[hR] at hS;generalize hp:ls[i]=p at*;obtain⟨id,kind,owner,prev,txg,guid,key,root,dead⟩:=p;obtain⟨ra,rb,rc,rd,re⟩:=root;simp only[J3] at ld1;simp only at hS;generalize hnx:Qba (before ls (i+1)) (ls.drop (i+1))=nx at hS;cases i with
   |zero=>
    have c0:decide (((0:Nat):Int)>0)=false:=rfl;have hb0:before ls 0=none:=rfl;simp only[hb0] at hS;simp only[Qmi,Qey,Qfg,Zv,Zk,Kf,nov,gd,rho,Q1,wr,Nat.reduceAdd,Nat.reduceSub,if_true,if_false,reduceIte,reduceCtorEq,Nat.reduceLT,Nat.reduceEqDiff,Nat.reduceMul,Nat.reduceLeDiff,Qgv,Int.reduceBEq,Int.reduceBNe,Int.reduceLT,Int.reduceLE,↓Qc,c1,at1,ld1,sc,c0,ta,wH,wB]
    repeat' ((first|refine W.guardF ?_ ?_|refine W.guardT ?_ ?_|refine W.guardXF ?_ ?_|refine W.guardXT ?_ ?_|refine W.ite ?_ ?_|refine W.opsK1 (by kernel_rfl) ?_)<;>intro h<;>simp only[wX,↓Qc,simprocAttr,h,c0])
    all_goals first
    |(refine W.done ?_
      simp only[wA,↓Qc,simprocAttr];refine W.done (Q0.ret rfl rfl ?_);rw[hS];simp only[*,Yf,if_true,if_false,okE]
      try rfl)
    |(try simp only[wA,↓Qc,simprocAttr,w1,(rfl:(IntKind.i64).wrap 1=1)]
      refine W.done ⟨0+1,⟨_,rfl,by omega,rfl,.inr ⟨_,rfl⟩,?_⟩,by omega⟩;rw[hS,hnx];simp only[*,Yf,if_true,if_false]
      try rfl)
   |succ k=>
    have c0:decide (((k+1:Nat):Int)>0)=true:=Zrh (by omega);have wk:(IntKind.i64).wrap (((k+1:Nat):Int)-1)=((k:Nat):Int):=by rw[wrap_i64]<;>omega
    have hk:k<ls.length:=by omega
    have at2:=hv.at (k:= .i64) Zu6 Qin (by decide) (i:=(k:Int)) (by omega) (by omega);have hb:before ls (k+1)=some ls[k]:=by simp only[before,Zn1 hk]
    obtain⟨j1,_,_,_⟩:=hc.cells hk;have j1' :cs[(k:Int).toNat*13+0]?=_:=j1;simp only[hb] at hS;simp only[wX,↓Qc,simprocAttr,c1,at1,ld1,sc,c0]
    repeat' ((first|refine W.guardF ?_ ?_|refine W.guardT ?_ ?_|refine W.guardXF ?_ ?_|refine W.guardXT ?_ ?_|refine W.ite ?_ ?_|refine W.opsK1 (by kernel_rfl) ?_)<;>intro h<;>simp only[wX,↓Qc,simprocAttr,h,c0,wk,at2,j1'])
    all_goals first
    |(refine W.done ?_
      simp only[wA,↓Qc,simprocAttr];refine W.done (Q0.ret rfl rfl ?_);rw[hS];simp only[*,Yf,if_true,if_false,okE]
      try rfl)
    |(try simp only[wA,↓Qc,simprocAttr,w1,(rfl:(IntKind.i64).wrap 1=1)]
      refine W.done ⟨_,⟨_,rfl,by omega,rfl,.inr ⟨_,rfl⟩,?_⟩,by omega⟩;rw[hS,hnx];simp only[*,Yf,if_true,if_false]
      try rfl)
 . have c1:decide ((i:Int)<ls.length)=false:=Zri (by omega);have hA:Qba none ls=true:=by
    rw[<-hR,Zqe (by omega)];cases hb:before ls i<;>rfl
   rw[hA,if_pos rfl];simp only[wA,↓Qc,simprocAttr,c1];refine W.done ?_;simp only[wX,↓Qc,simprocAttr,len];refine W.ul ?_;refine W.loop (fun(i:Nat) t H=>∃F:AM.Frame,Jg [0,51,52,53] t 0=Qvu v v (.int .i64 ls.length) (.int .i64 i)/\i<=ls.length/\H=[F]/\((F=[]\/∃x,F=[(4,.cells x)])\/∃x,F=[(6,.cells x)])/\Qc9 ls (ls.drop i)=Qc9 ls ls) (fun i=>ls.length-i) ?_ 0 ⟨_,rfl,by omega,rfl,.inl (.inl rfl),rfl⟩ rfl;rintro i t H ⟨F,ht,hi,rfl,hF,hR⟩;have hd:([F]:Heap).modify 0 (Ju fun s=>[4,6].contains s)=[[]]:=by rcases hF with(rfl|⟨x,rfl⟩)|⟨x,rfl⟩<;>rfl
   have vr:v.refs (fun f s=>f==0&&[4,6].contains s)=false:=hv.noRefs _;refine⟨_,_,Z7 (kt:=[0,51,52,53]) (ds:=[4,6]) rfl ?_ ?_,?_⟩
   . rw[ht];simp only[Qvu,Qi,V.refs,vr];simp
   . rw[hd];simp only[Q2,Zg,O.refs,Qi,V.refs];simp
   rw[ht,hd];simp only[Qvu];by_cases h:i<ls.length
   . have c1:decide ((i:Int)<ls.length)=true:=Zrh (by omega);have at1:=hv.at (k:= .i64) Zu6 Qin (by decide) (i:=(i:Int)) (by omega) (by omega);obtain⟨dv,hdv,ld⟩:=hc.ld h;have sc:=Q4 hdv;have ld1:∀g,ldV Tp 52 g (.iptr cs ((i:Int).toNat*13))=_:=ld;have w1:(IntKind.i64).wrap ((i:Int)+1)=((i+1:Nat):Int):=by rw[wrap_i64]<;>omega
     have hS:Qc9 ls (ls.drop i)=if Qga ls ls[i] then false else Qc9 ls (ls.drop (i+1)):=by rw[Zqt h];rfl
     rw[hR] at hS;obtain⟨m,rfl,hm⟩:=(Qce ls[i].root).op (by rfl) rfl;have hm1:∀s H,_:=fun s H=>hm 48 0 s H rfl;obtain⟨m,rfl,hm⟩:=(Qui dv ls[i].dead hdv).op (by rfl) (Qa (hdv.frz _) rfl);have hm2:∀s H,_:=fun s H=>hm 48 0 s H rfl;obtain⟨m,rfl,hm⟩:=(kin_fz v ls hv0 (by omega) ls[i] dv hdv).op (by rfl) (Qa (hv.frz _) (Qa (Qks hdv) rfl));have hm3:∀s H,_:=fun s H=>hm 48 0 s H rfl;generalize hp:ls[i]=p at*;obtain⟨id,kind,owner,prev,txg,guid,key,root,dead⟩:=p;obtain⟨ra,rb,rc,rd,re⟩:=root;simp only[J3,Yb.cells] at ld1 hm1 hm2 hm3;simp only[Qga] at hS;generalize hnx:Qc9 ls (ls.drop (i+1))=nx at hS;simp only[wX,↓Qc,simprocAttr,c1,at1,ld1,sc,hm1,hm2,hm3,Xo]
     repeat' ((first|refine W.guardF ?_ ?_|refine W.guardT ?_ ?_|refine W.guardXF ?_ ?_|refine W.guardXT ?_ ?_|refine W.ite ?_ ?_|refine W.opsK1 (by kernel_rfl) ?_)<;>intro h<;>simp only[wX,↓Qc,simprocAttr,h,hm1,hm2,hm3,Xo,sc])
     all_goals first
      |(refine W.done ?_
        simp only[wA,↓Qc,simprocAttr];refine W.done (Q0.ret rfl rfl ?_);rw[hS];simp only[*,Yf,if_true,if_false,okE]
        try rfl)
      |(try simp only[wA,↓Qc,simprocAttr,w1,(rfl:(IntKind.i64).wrap 1=1)]
        refine W.done ⟨_,⟨_,rfl,by omega,rfl,.inr ⟨_,rfl⟩,?_⟩,by omega⟩;rw[hS,hnx];simp only[*,Yf,if_true,if_false]
        try rfl)
   . have c1:decide ((i:Int)<ls.length)=false:=Zri (by omega);have hB:Qc9 ls ls=true:=by
      rw[<-hR,Zqe (by omega)];rfl
     rw[hB];simp only[wA,↓Qc,simprocAttr,c1];refine W.done ?_;simp only[wX,↓Qc,simprocAttr,len];exact W.done (Q0.ret rfl rfl rfl)
set_option maxHeartbeats 8000000 in
theorem Qvq(c:Qp)(dv:V)(hd:Qnd dv c.n):Fz Tp Qg 51 [.agg (Ql c dv)] fun x=>x= .bool (J8 c):=by
 refine Zm Tryz.func51 rfl ?_;obtain⟨cells,hd⟩:=hd;have sc:=Q4 hd;have len:=Qw.len Zu0 hd;have hq:=fun x y=>Qgf (x:=x) (y:=y) c.laid Bf;obtain⟨m,rfl,hm⟩:=(Qce c.laid).op (by rfl) rfl;have hm1:∀s H,_:=fun s H=>hm 51 0 s H rfl;obtain⟨set,obj,index,kind,links,size,n,laid⟩:=c;simp only[J8];simp only at hq hm1;generalize Qe5 laid=po at*;generalize decide (laid=Bf)=pz at*;obtain⟨a,b,c,d,e⟩:=laid;simp only[Yb.cells,Bf] at hm1 hq;simp only[wX,↓Qc,simprocAttr,Tryz.ntmps51,Ql,sc,len,hq,hm1,Xo,Q8i]
 repeat' ((first|refine W.guardF ?_ ?_|refine W.guardT ?_ ?_|refine W.guardXF ?_ ?_|refine W.guardXT ?_ ?_|refine W.ite ?_ ?_|refine W.opsK1 (by kernel_rfl) ?_)<;>intro h<;>simp only[wX,↓Qc,simprocAttr,h,hm1,hq,sc,len,Xo,Q8i])
 all_goals refine W.done (Q0.ret rfl rfl ?_)
 all_goals first|rfl|(simp only[*,Yf,if_true,if_false];try rfl)
theorem Q8q(a b:Qp)(av bv:V)(ha:Qnd av a.n)(hb:Qnd bv b.n):Fz Tp Qg 52 [.agg (Ql a av),.agg (Ql b bv)] fun x=>x= .int .i64 (Qet a b):=by
 refine Zm Tryz.func52 rfl ?_;obtain⟨ca,ha⟩:=ha;obtain⟨cb,hb⟩:=hb;have sa:=Q4 ha;have sb:=Q4 hb;obtain⟨m,rfl,hm⟩:=(Qc2 a.set b.set).op (by rfl) rfl;have hm1:∀s H,_:=fun s H=>hm 52 0 s H rfl;obtain⟨m,rfl,hm⟩:=(Qc2 a.obj b.obj).op (by rfl) rfl;have hm2:∀s H,_:=fun s H=>hm 52 0 s H rfl;obtain⟨m,rfl,hm⟩:=(Qc2 a.index b.index).op (by rfl) rfl;have hm3:∀s H,_:=fun s H=>hm 52 0 s H rfl;obtain⟨m,rfl,hm⟩:=(or_fz (.iS [.int .i64 (Qdr a.set b.set),.int .i64 (Qdr a.obj b.obj),.int .i64 (Qdr a.index b.index)] 3 true) [Qdr a.set b.set,Qdr a.obj b.obj,Qdr a.index b.index] (Xg.mk _ _) (by simp)).op (by rfl) rfl;have hm4:∀s H,_:=fun s H=>hm 52 0 s H rfl;have mt:Qg.mt 52 20=false:=by rfl
 simp only[wX,↓Qc,simprocAttr,Tryz.ntmps52,Ql,sa,sb,hm1,hm2,hm3,hm4,Zu4,sz3,zc3,Zp9,Zpt,Zom,mt]
 repeat' ((first|refine W.guardF ?_ ?_|refine W.guardT ?_ ?_|refine W.guardXF ?_ ?_|refine W.guardXT ?_ ?_|refine W.ite ?_ ?_|refine W.opsK1 (by kernel_rfl) ?_)<;>intro h<;>simp only[wA,↓Qc,simprocAttr,h,mt])
 all_goals refine W.done (Q0.ret rfl rfl ?_)
 all_goals first|rfl|(simp only[Qet, *,Yf,if_true,if_false];try rfl)
theorem byt_u8:byt Tp 5=some 1:=by kernel_rfl
theorem tok_sl(mt:Nat->Bool)(dst:Option Nat)(x:V):Qkq Tp mt dst 26 9 x=none:=by cases dst<;>simp only[Qkq,Zu0,Tryz.underlying9]
theorem Zae(x y:V)(k l:List UInt8)(hx:Qe x k)(hy:Qe y l):CW Tp Qg 106 [x,y] [] fun r _=>r= .ret (.bool (decide (k=l))):=by
 refine Zu Tryz.func106 rfl ?_;have c1:=fun g=>Qp9 (P:=Tp) (g:=g) (s:=26) (d:=9) Zu0 Zu11 Tryz.underlying9 (Qw.sc (g:=g) hx);have c2:=fun g=>Qp9 (P:=Tp) (g:=g) (s:=26) (d:=9) Zu0 Zu11 Tryz.underlying9 (Qw.sc (g:=g) hy);simp only[wX,↓Qc,simprocAttr,Tryz.ntmps106,c1,c2,tok_sl];refine W.done (End.ret (v:= .bool (decide (k=l))) ?_ rfl);have e:(k==l)=decide (k=l):=by rw[Bool.eq_iff_iff];simp
 rw[<-e];rfl
theorem Q92(x:V)(k:List UInt8)(hk:Qe x k)(hl:k.length<=9223372036854775807)(many:Int)(hm:many=24\/many=16):
 CW Tp Qg 105 [x,.ptr 0 3 0] [[(3,.cells [.int .i64 many])],[],[]] fun r H=>r= .ret (.bool (Be many k))/\H=[[(3,.cells [.int .i64 many])],[],[]]:=by
 refine Zu Tryz.func105 rfl ?_;have len:=Qw.len Zu0 hk;rcases hm with rfl|rfl
 . obtain⟨r,H',e1,e2⟩:=Zae x (.iS (Qb (List.replicate 24 0)) 24 true) k (List.replicate 24 0) hk (Qe.mk _ _);subst e2;have hc:∀d,callOp Qg (Qn Tp Qg) 105 3 d 106 [x,.mS 3 18 0 24 (some 24) 1] [[(3,.cells [.int .i64 24])],[],[],[(18,.cells (zerosN [.int .u8 0] 24))]]=some (.ret (.bool (decide (k=List.replicate 24 0))),_):=
    fun d=>Qee rfl rfl rfl rfl (Qa (Qw.frz hk _) (Qa rfl rfl)) e1 rfl
   have un:=Zu0;have rm:J4 24 1=true:=by rfl
   simp only[wX,↓Qc,simprocAttr,Tryz.ntmps105,Zp9,Zpt,len];have t24:Int.toNat 24=24:=rfl;have t24' :(24:Int)<=24:=Int.le_refl _
   repeat' ((first|refine W.guardF ?_ ?_|refine W.guardT ?_ ?_|refine W.guardXF ?_ ?_|refine W.guardXT ?_ ?_|refine W.ite ?_ ?_|refine W.opsK1 (by kernel_rfl) ?_)<;>intro h<;>simp only[wA,↓Qc,simprocAttr,h,ta,wH,len,un,sz5,zc5,byt_u8,rm,t24,hc,Int.le_refl,true_and,and_true,Zp9,Zpt,Nat.reduceLeDiff,Int.reduceLE])
   all_goals refine W.done (End.ret (v:= .bool (Be 24 k)) ?_ ⟨rfl,rfl⟩)
   all_goals simp only[Be, *,Zo5,Zqy,Bool.true_or,Bool.or_true,Zpa,Zqr]
   all_goals rfl
 . simp only[wX,↓Qc,simprocAttr,Tryz.ntmps105,Zp9,Zpt,len];have e:((16:Int)==24)=false:=rfl
   repeat' ((first|refine W.guardF ?_ ?_|refine W.guardT ?_ ?_|refine W.guardXF ?_ ?_|refine W.guardXT ?_ ?_|refine W.ite ?_ ?_|refine W.opsK1 (by kernel_rfl) ?_)<;>intro h<;>simp only[wA,↓Qc,simprocAttr,h,ta,wH,len,e])
   all_goals refine W.done (End.ret (v:= .bool (Be 16 k)) ?_ ⟨rfl,rfl⟩)
   all_goals simp only[Be, *,Zo5,Zqy,Bool.true_or,Bool.or_true,Zpa,Zqr]
   all_goals rfl
theorem Q2n(v:V)(l:List (List UInt8))(cs:List V)(hc:Kw cs l)(hv:Qw 1 v cs l.length)(hl:l.length<=9223372036854775807)(hk:∀k∈l,k.length<=9223372036854775807)(many:Int)(hm:many=24\/many=16):
 CW Tp Qg 162 [v,.func (.func 105) [] [.ptr 0 3 0]] [[(3,.cells [.int .i64 many])],[]] fun r H=>r= .ret (.int .i64 (Q8 (Be many) 0 l))/\H=[[(3,.cells [.int .i64 many])],[]]:=by
 refine Zu Tryz.func162 rfl ?_;have len:=hv.len Zu1;simp only[wX,↓Qc,simprocAttr,Tryz.ntmps162,Zp9,Zpt,len];refine W.ul ?_;refine W.loopS (kt:=[0,1,7,8]) rfl (fun i:Nat=>Q26 v (.func (.func 105) [] [.ptr 0 3 0]) (.int .i64 l.length) (.int .i64 i)) (fun _=>[[(3,.cells [.int .i64 many])],[],[]]) (fun i=>i<=l.length/\Q8 (Be many) i (l.drop i)=Q8 (Be many) 0 l) (fun i=>l.length-i) ?_ 0 ⟨by omega,rfl⟩ rfl rfl;rintro i ⟨hi,hR⟩;simp only[Q26];by_cases h:i<l.length
 . have c1:decide ((i:Int)<l.length)=true:=Zrh (by omega);have at1:=hv.at (k:= .i64) Zu1 Qau (by decide) (i:=(i:Int)) (by omega) (by omega);obtain⟨x,g0,hx⟩:=hc.at_ h;have g1:cs[(i:Int).toNat*1]?=some x:=by simpa using g0
   have g1' :cs[(i:Int).toNat]?=some x:=by simpa using g0
   have w1:(IntKind.i64).wrap ((i:Int)+1)=((i+1:Nat):Int):=by rw[wrap_i64]<;>omega
   obtain⟨r,H',e1,e2,rfl⟩:=Q92 x l[i] hx (hk _ (Zp8 h)) many hm;subst e2;have hcall:∀d,callOp Qg (Qn Tp Qg) 162 2 d 105 [x,.ptr 0 3 0] [[(3,.cells [.int .i64 many])],[],[]]=_:=fun d=>Za rfl rfl rfl e1;have hS:Q8 (Be many) i (l.drop i)=if Be many l[i] then(i:Int) else Q8 (Be many) (i+1) (l.drop (i+1)):=by rw[Zqt h];rfl
   rw[hR] at hS;simp only[wX,↓Qc,simprocAttr,c1,at1,rd26,g1,g1',hcall,Zo8,Zpu];refine W.ite ?_ ?_<;>intro h2<;>simp only[wA,↓Qc,simprocAttr,ta,wH,w1]
   . refine W.done ?_;simp only[wA,↓Qc,simprocAttr];refine W.done (End.ret (v:= .int .i64 (Q8 (Be many) 0 l)) ?_ ⟨rfl,rfl⟩);rw[hS,h2];rfl
   . refine W.done ⟨i+1,rfl,rfl,⟨by omega,?_⟩,by omega⟩;rw[hS,h2];rfl
 . have c1:decide ((i:Int)<l.length)=false:=Zri (by omega);simp only[wA,↓Qc,simprocAttr,c1];refine W.done ?_;simp only[wA,↓Qc,simprocAttr];refine W.done (End.ret (v:= .int .i64 (Q8 (Be many) 0 l)) ?_ ⟨rfl,rfl⟩);rw[<-hR,Zqe (by omega)];rfl
theorem Qw6(v:V)(l:List (List UInt8))(cs:List V)(hc:Kw cs l)(hv:Qw 1 v cs l.length)(hl:l.length<=9223372036854775807)(hk:∀k∈l,k.length<=9223372036854775807)(many:Int)(hm:many=24\/many=16):
 CW Tp Qg 107 [v,.func (.func 105) [] [.ptr 0 3 0]] [[(3,.cells [.int .i64 many])]] fun r H=>r= .ret (.bool (l.any (Be many)))/\H=[[(3,.cells [.int .i64 many])]]:=by
 refine Zu Tryz.func107 rfl ?_;obtain⟨r,H',e1,e2,rfl⟩:=Q2n v l cs hc hv hl hk many hm;subst e2;have hcall:∀d,callOp Qg (Qn Tp Qg) 107 1 d 162 [v,.func (.func 105) [] [.ptr 0 3 0]] [[(3,.cells [.int .i64 many])],[]]=_:=fun d=>Za rfl rfl rfl e1;simp only[wX,↓Qc,simprocAttr,Tryz.ntmps107,Zp9,Zpt,Zo8,Zpu,hcall,Qhz];exact W.done (End.ret (v:= .bool (l.any (Be many))) rfl ⟨rfl,rfl⟩)
theorem Qql(v:V)(l:List (List UInt8))(hv:Z2 v l)(hl:l.length<=9223372036854775807)(hk:∀k∈l,k.length<=9223372036854775807)(many:Int)(hm:many=24\/many=16):
 Fz Tp Qg 49 [v,.int .i64 many] fun x=>x= .bool (Qbh l many):=by
 refine Zm Tryz.func49 rfl ?_;obtain⟨cs,hc,hv⟩:=hv;have len:=hv.len Zu1;obtain⟨r,H',e1,e2,rfl⟩:=Qw6 v l cs hc hv hl hk many hm;subst e2;have hcall:∀d,callOp Qg (Qn Tp Qg) 49 0 d 107 [v,.func (.func 105) [] [.ptr 0 3 0]] [[(3,.cells [.int .i64 many])]]=_:=fun d=>Za rfl rfl rfl e1;simp only[wX,↓Qc,simprocAttr,Tryz.ntmps49,len,hcall]
 repeat' ((first|refine W.guardF ?_ ?_|refine W.guardT ?_ ?_|refine W.guardXF ?_ ?_|refine W.guardXT ?_ ?_|refine W.ite ?_ ?_|refine W.opsK1 (by kernel_rfl) ?_)<;>intro h<;>simp only[wA,↓Qc,simprocAttr,h,ta,wH,len,hcall])
 all_goals refine W.done (Q0.ret rfl rfl ?_)
 all_goals first|rfl|(simp only[Qbh, *,Yf,if_true,if_false];try rfl)
open Go.AM Go.AM.BM
def K4(m:Int)(l:List UInt8):Int:=l.foldl (fun m b=>if(b.toNat:Int)>m then b.toNat else m) m
theorem Q7f(v:V)(b:UInt8)(l:List UInt8)(hv:Qe v (b::l))(hl:l.length+1<=281474976710656):
 CW Tp Qg 159 [v] [] fun x _=>x= .ret (.int .u8 (K4 b.toNat l)):=by
 refine Zu Tryz.func159 rfl ?_;have len:=hv.len Zu0;have at0:=hv.at (k:= .i64) Zu0 sz5 (by decide) (i:=0) (by omega) (by simp);have get0:(Qb (b::l))[(0:Int).toNat*1]?=some (.int .u8 b.toNat):=rfl;have get0' :(Qb (b::l))[(0:Int).toNat]?=some (.int .u8 b.toNat):=rfl;have lt1:decide (((b::l).length:Int)<1)=false:=Zri (by simp;omega);have hL2:(b::l).length=l.length+1:=rfl;generalize hL:b::l=L at*;simp only[Qmi,Qey,Qfg,Zv,Zk,Kf,nov,gd,rho,Q1,wr,Nat.reduceAdd,Nat.reduceSub,if_true,if_false,reduceIte,reduceCtorEq,Nat.reduceLT,Nat.reduceEqDiff,Nat.reduceMul,Nat.reduceLeDiff,Qgv,Int.reduceBEq,Int.reduceBNe,Int.reduceLT,Int.reduceLE,↓Qc,Tryz.ntmps159,ta,wH,wB,len,at0,lt1,rd5,get0,get0'];refine W.ul ?_;refine W.loopS (kt:=[0,3,4]) rfl (fun a:Int×Nat=>Qup v (.int .u8 a.1) (.int .i64 a.2)) (fun _=>[[]]) (fun a=>a.2<=L.length/\K4 a.1 (L.drop a.2)=K4 b.toNat l) (fun a=>L.length-a.2) ?_ (b.toNat,1) ⟨by subst hL;simp,by subst hL;simp⟩ rfl rfl;rintro⟨m,i⟩ ⟨hi,hm⟩;simp only at hi hm;by_cases h:i<L.length
 . have c1:decide ((i:Int)<L.length)=true:=by simp;omega
   have at1:=hv.at (k:= .i64) Zu0 sz5 (by decide) (i:=(i:Int)) (by omega) (by omega);have get1:(Qb L)[(i:Int).toNat*1]?=some (.int .u8 L[i].toNat):=by simp[Qeh,h]
   have get1' :(Qb L)[(i:Int).toNat]?=some (.int .u8 L[i].toNat):=by simp[Qeh,h]
   have w1:(IntKind.i64).wrap ((i:Int)+1)=((i+1:Nat):Int):=by rw[wrap_i64]<;>omega
   simp only[Qup];simp only[wX,↓Qc,simprocAttr,len,c1,at1,rd5,get1,get1',w1];refine W.done ⟨(_,i+1),rfl,rfl,⟨by simp only;omega,?_⟩,by simp only;omega⟩;rw[<-hm,Zqt h];rfl
 . have c1:decide ((i:Int)<L.length)=false:=by simp;omega
   simp only[Qup];simp only[wA,↓Qc,simprocAttr,len,c1];refine W.done ?_;have:m=K4 b.toNat l:=by rw[<-hm,Zqe (by omega)];rfl
   subst this;simp only[wA,↓Qc,simprocAttr];exact W.done (End.ret (v:= .int .u8 (K4 b.toNat l)) rfl rfl)
theorem byteB{v:V}(h:Qoc v=true):∃b:UInt8,v= .int .u8 b.toNat:=by
 cases v with
 |int k a=>
  cases k<;>try (cases a<;>cases h)
  cases a with
  |ofNat n=>
   have:n<256:=by simp only[Qoc,Nat.blt] at h;have:=Zqa h;omega
   refine⟨UInt8.ofNat n,?_⟩;have e:(UInt8.ofNat n).toNat=n:=by simp;omega
   rw[e];rfl
  |negSucc n=>cases h
 |_=>cases h
theorem Ql6{x:V}{c:List V}(h:Qqw x=some c):∃l:List UInt8,c=Qb l/\Qe x l/\l.length<=1048576:=by
 have key:∀c:List V,c.all Qoc=true->∃l:List UInt8,c=Qb l:=by
  intro c
  induction c with
  |nil=>intro _;exact⟨[],rfl⟩
  |cons v c ih=>
   intro h;simp only[Zqn,Zok] at h;obtain⟨b,rfl⟩:=byteB h.1;obtain⟨l,rfl⟩:=ih h.2;exact⟨b::l,rfl⟩
 cases x with
 |nS=>cases h;exact⟨[],rfl,Qw.nil,by simp⟩
 |iS xs n f=>
  simp only[Qqw] at h;split at h
  case isFalse=>cases h
  rename_i hc;cases h;simp only[Zok] at hc;obtain⟨h1,h2,h3⟩:=hc;obtain⟨l,rfl⟩:=key _ h3;have e1:=Zqx h1;have e2:=Zqa h2;have e3:(Qb l).length=l.length:=by simp[Qb]
  rw[e3] at e1;subst e1;exact⟨l,rfl,Qw.mk (by rw[e3];omega),e2⟩
 |_=>cases h
theorem Qmc:∀(l:List UInt8) (m:Nat),Int.ofNat (maxV (Qb l) m)=K4 m l
 |[],m=>rfl
 |b::l,m=>by
  have e:maxV (Qb (b::l)) m=Bool.rec (motive:=fun _=>Nat) (maxV (Qb l) m) (maxV (Qb l) b.toNat) (Nat.ble (Nat.succ m) b.toNat):=rfl;have e2:K4 m (b::l)=K4 (if(b.toNat:Int)>m then b.toNat else m) l:=rfl;rw[e,e2];cases hb:Nat.ble (Nat.succ m) b.toNat with
  |true=>
   have:=Zqa hb;rw[if_pos (by omega)];exact Qmc l _
  |false=>
   have:¬Nat.succ m<=b.toNat:=fun h=>by rw[Zqw h] at hb;cases hb
   rw[if_neg (by omega)];exact Qmc l _
theorem Zew(ys:List V)(v:V)(h:kMax ys=some v):FzN Tp Qg 159 ys v:=by
 unfold kMax at h;split at h
 case h_2=>cases h
 rename_i x;split at h
 case h_2=>cases h
 rename_i v0 c hc;cases h;obtain⟨l,e,hb,hl⟩:=Ql6 hc;cases l with
 |nil=>cases e
 |cons b l=>
  cases e;obtain⟨r,H,e1,rfl⟩:=Q7f x b l hb (by simp only[Zp9] at hl;omega);have e3:=Qmc l b.toNat
  show FzN _ _ _ _ (.int .u8 (Int.ofNat (maxV (Qb l) b.toNat)));rw[e3];exact⟨_,_,e1,rfl⟩
end
section
set_option maxRecDepth 100000
open Go.AM
attribute [local irreducible] U W
theorem Zei(C:AM.Call)(fn fr:Nat)(d:Option Nat)(H:Heap)(v:V)(l:List UInt8)(hv:Qe v l)(c:UInt8):
 callOp Qg C fn fr d 216 [v,.int .u8 c.toNat] H=some (.ret (.int .i64 (l.count c)),H):=by
 have e:Qg.prim 216=some K8:=rfl;simp only[callOp,e,K8,hv.bytesV,Zn2,wr,Lib.countByte];simp
theorem max_fz(v:V)(b:UInt8)(l:List UInt8)(hv:Qe v (b::l))(hl:l.length+1<=281474976710656):
 Fz Tp Qg 159 [v] fun r=>r= .int .u8 (K4 b.toNat l):=by
 obtain⟨r,H,e1,rfl⟩:=Q7f v b l hv hl;exact⟨_,_,_,e1,rfl,rfl⟩
theorem Zan(v w:V)(l:List UInt8)(c:UInt8)(hv:Qe v l)(hw:Qe w [c]):
 Fz Tp Qg 160 [v,w] fun r=>r= .int .i64 (l.count c):=by
 refine Zm Tryz.func160 rfl ?_;have len:=hw.len Zu0;have at0:=hw.at (k:= .i64) Zu0 sz5 (by decide) (i:=0) (by omega) (by simp);have get0:(Qb [c])[(0:Int).toNat*1]?=some (.int .u8 c.toNat):=rfl;have c1:((([c]:List UInt8).length:Int)==0)=false:=rfl;have c2:((([c]:List UInt8).length:Int)==1)=true:=rfl;have ct:∀d,callOp Qg (Qn Tp Qg) 160 0 d 216 [v,.int .u8 c.toNat] [[]]=some (.ret (.int .i64 (l.count c)),[[]]):=fun d=>Zei _ _ _ _ _ v l hv c;generalize hn:([c]:List UInt8).length=n at*;simp only[Qmi,Qey,Qfg,Zv,Zk,Kf,nov,gd,rho,Q1,wr,Nat.reduceAdd,Nat.reduceSub,if_true,if_false,reduceIte,reduceCtorEq,Nat.reduceLT,Nat.reduceEqDiff,Nat.reduceMul,Nat.reduceLeDiff,Qgv,Int.reduceBEq,Int.reduceBNe,Int.reduceLT,Int.reduceLE,↓Qc,ta,wH,Tryz.ntmps160,len,at0,rd5,get0,c1,c2,ct];exact W.done (Q0.ret rfl rfl rfl)
theorem Qo4(n:Int):∀(l:List UInt8) (m:Int),K4 m l<=n↔m<=n/\∀b∈l,(b.toNat:Int)<=n
 |[],m=>by simp[K4]
 |b::l,m=>by
  have e:K4 m (b::l)=K4 (if(b.toNat:Int)>m then b.toNat else m) l:=rfl;rw[e,Qo4 n l];split
  . constructor
    . rintro⟨h1,h2⟩;exact⟨by omega,by simpa using ⟨h1,h2⟩⟩
    . rintro⟨h1,h2⟩;simp at h2;exact⟨h2.1,h2.2⟩
  . constructor
    . rintro⟨h1,h2⟩;exact⟨h1,by simp;exact⟨by omega,h2⟩⟩
    . rintro⟨h1,h2⟩;simp at h2;exact⟨h1,h2.2⟩
theorem Qi4(v:V)(l:List UInt8)(hv:Qe v l):
 Fz Tp Qg 102 [v] fun r=>r= .int .i64 (if Yx l then 0 else 8):=by
 refine Zm Tryz.func102 rfl ?_;have len:=hv.len Zu0;simp only[wA,↓Qc,simprocAttr,ta,wH,Tryz.ntmps102,len];by_cases h1:l.length=256
 . have c1:((l.length:Int) !=256)=false:=by simp[h1]
   match l,h1 with
   |b::l',h1=>
   obtain⟨m,rfl,hm⟩:=(max_fz v b l' hv (by simp at h1;omega)).op (by rfl) (Qa (hv.frz _) rfl);have hm' :∀d,_:=fun d=>hm 102 0 d [[]] rfl;generalize hL:b::l' =L at*;obtain⟨w,hw,hw'⟩:=hv.cut Zu0 sz5 none (some 12) (by simp) (by simp) (by simp;omega);simp only[Zpl,Zn2] at hw;have bs:Qe (.iS [.int .u8 1] 1 true) [1]:=Qe.mk [1] true;obtain⟨m,rfl,hc⟩:=(Zan _ _ _ 1 hw' bs).op (by rfl) (Qa (hw'.frz _) (Qa (bs.frz _) rfl));have hc' :∀d,_:=fun d=>hc 102 0 d [[]] rfl;have e1:L.take 12=(List.drop ((none:Option Int).getD 0).toNat L).take (((some 12:Option Int).getD L.length).toNat-((none:Option Int).getD 0).toNat):=rfl;rw[<-e1] at hc';have e2:K4 b.toNat l' <=2↔(L.all fun b=>b<=2)=true:=by rw[Qo4,<-hL];simp only[Zqn,Zok,decide_eq_true_eq,Zor,le2]
   have z1:zeroCells Tp 5=some [.int .u8 0]:=zc5;simp only[wA,↓Qc,simprocAttr,ta,wH,c1,hm'];refine W.guard (fun g1=>?_) (fun g1=>?_)
   . have g2:K4 b.toNat l' <=2:=by have:=of_decide_eq_false g1;omega
     have g3:Yx L=((L.take 12).count 1==12):=by simp only[Yx,h1,beq_self_eq_true,Zo5,e2.1 g2]
     have mt0:∀s,s<2000000->Qg.mt 102 s=false:=fun s h=>B2 h rfl;simp only[wX,↓Qc,simprocAttr,g1,hw,Zu0,sz5,z1,mt0,hc'];refine W.ite (fun g4=>?_) (fun g4=>?_)
     . simp only[wA,↓Qc,simprocAttr,ta,wH,];refine W.done (Q0.ret rfl rfl ?_);have g5:=bne_iff_ne.1 g4;have g6:(List.count 1 (List.take 12 L)==12)=false:=beq_false_of_ne fun e=>g5 (by rw[e];rfl);show V.int .i64 8=_;rw[g3,g6];rfl
     . simp only[wA,↓Qc,simprocAttr,ta,wH,];refine W.done (Q0.ret rfl rfl ?_);have g5:((List.count 1 (List.take 12 L):Nat):Int)=12:=by simpa using g4
       have g6:(List.count 1 (List.take 12 L)==12)=true:=beq_iff_eq.2 (by omega);show V.int .i64 0=_;rw[g3,g6];rfl
   . have g2:¬K4 b.toNat l' <=2:=by have:=of_decide_eq_true g1;omega
     have g3:Yx L=false:=by have:(L.all fun b=>b<=2)=false:=Zqu.2 fun h=>g2 (e2.2 h);simp only[Yx,this,Bool.and_false,Zqy]
     simp only[wA,↓Qc,simprocAttr,ta,wH,g1];refine W.done (Q0.ret rfl rfl ?_);rw[g3];rfl
 . have c1:((l.length:Int) !=256)=true:=by simp;omega
   have e:Yx l=false:=by simp[Yx,h1]
   simp only[wA,↓Qc,simprocAttr,ta,wH,c1];exact W.done (Q0.ret rfl rfl (by rw[e];rfl))
theorem Qi2(bv wv sv:V)(d:Int)(hd:Fz Tp Qg 74 [.agg [bv,wv]] fun x=>x= .int .i64 d)(hf:frz (fun _ _=>none) depth (.agg [bv,wv])=some (.agg [bv,wv]))(sb:bv.scalar=true)(sw:wv.scalar=true)
 (space:List UInt8)(hs:Qe sv space)(epoch count:Int):
 Fz Tp Qg 46 [.agg [bv,wv,sv,.int .u32 epoch,.int .u32 count]] fun x=>x= .int .i64 (okE (Bi d (Yx space) epoch count)):=by
 refine Zm Tryz.func46 rfl ?_;have ss:=Q4 hs;obtain⟨m,rfl,hm⟩:=hd.op (by rfl) (Qa hf rfl);have hm1:∀s H,_:=fun s H=>hm 46 0 s H rfl;obtain⟨m,rfl,hm⟩:=(Qi4 sv space hs).op (by rfl) (Qa (hs.frz _) rfl);have hm2:∀s H,_:=fun s H=>hm 46 0 s H rfl;simp only[okE_if] at hm2;simp only[wX,↓Qc,simprocAttr,Tryz.ntmps46,sb,sw,ss,hm1,hm2,Xo]
 repeat' ((first|refine W.guardF ?_ ?_|refine W.guardT ?_ ?_|refine W.guardXF ?_ ?_|refine W.guardXT ?_ ?_|refine W.ite ?_ ?_|refine W.opsK1 (by kernel_rfl) ?_)<;>intro h<;>simp only[wX,↓Qc,simprocAttr,h,sb,sw,ss,hm1,hm2,Xo])
 all_goals refine W.done (Q0.ret rfl rfl ?_)
 all_goals first|rfl|(simp only[okE,Bi, *,Yf,if_true,if_false];try rfl)
theorem Q5y(F:AM.Frame)(pc:List V)(hw:Zg (fun f _=>Nat.ble 1 f) F=true)(hF:Xx F 1=some (.cells pc))(hpl:pc.length=19)(nid ng:Int)(h17:pc[17]?=some (.int .i64 nid))(h18:pc[18]?=some (.int .u32 ng))(l:Zy)(dv:V)(hd:Qa5 dv l.dead):
 CW Tp Qg 54 [.agg (J3 l dv),.ptr 0 1 0] [F,[],[]] fun r H=>r= .ret (.bool (Yr nid ng l))/\H=[F,[],[]]:=by
 refine Zu Tryz.func54 rfl ?_;have sc:=Q4 hd;obtain⟨id,kind,owner,prev,txg,guid,key,root,dead⟩:=l;obtain⟨ra,rb,rc,rd,re⟩:=root;simp only[J3];simp only[wX,↓Qc,simprocAttr,Tryz.ntmps54,Zp9,Zpt,Zo8,Zpu,sc,hF,h17,h18]
 repeat' ((first|refine W.guardF ?_ ?_|refine W.guardT ?_ ?_|refine W.guardXF ?_ ?_|refine W.guardXT ?_ ?_|refine W.ite ?_ ?_|refine W.opsK1 (by kernel_rfl) ?_)<;>intro h<;>simp only[wA,↓Qc,simprocAttr,h,ta,wH,sc,hF,h17,h18])
 all_goals refine W.done (End.ret (v:= .bool (Yr nid ng ⟨id,kind,owner,prev,txg,guid,key,⟨ra,rb,rc,rd,re⟩,dead⟩)) ?_ ⟨rfl,pop3 rfl hw⟩)
 all_goals simp only[Yr, *,Zo5,Zqy,Bool.true_or,Bool.or_true,Zpa,Zqr]
 all_goals rfl
theorem Qx1(v:V)(l:List Zy)(cs:List V)(hc:LinesC cs l)(hv:Qw 13 v cs l.length)(hl:l.length<=9223372036854775807)(F:AM.Frame)(pc:List V)(hw:Zg (fun f _=>Nat.ble 1 f) F=true)(hF:Xx F 1=some (.cells pc))(hpl:pc.length=19)(nid ng:Int)(h17:pc[17]?=some (.int .i64 nid))(h18:pc[18]?=some (.int .u32 ng)):
 CW Tp Qg 55 [v,.func (.func 54) [] [.ptr 0 1 0]] [F,[]] fun r H=>r= .ret (.int .i64 (Q8 (Yr nid ng) 0 l))/\H=[F,[]]:=by
 refine Zu Tryz.func55 rfl ?_;have len:=hv.len Zu6;simp only[wX,↓Qc,simprocAttr,Tryz.ntmps55,Zp9,Zpt,len];refine W.ul ?_;refine W.loopS (kt:=[0,1,7,8]) rfl (fun i:Nat=>Qvj v (.func (.func 54) [] [.ptr 0 1 0]) (.int .i64 l.length) (.int .i64 i)) (fun _=>[F,[],[]]) (fun i=>i<=l.length/\Q8 (Yr nid ng) i (l.drop i)=Q8 (Yr nid ng) 0 l) (fun i=>l.length-i) ?_ 0 ⟨by omega,rfl⟩ rfl rfl;rintro i ⟨hi,hR⟩;simp only[Qvj];by_cases h:i<l.length
 . have c1:decide ((i:Int)<l.length)=true:=Zrh (by omega);have at1:=hv.at (k:= .i64) Zu6 Qin (by decide) (i:=(i:Int)) (by omega) (by omega);obtain⟨dv,hdv,ld⟩:=hc.ld h;have ld1:∀g,ldV Tp 52 g (.iptr cs ((i:Int).toNat*13))=_:=ld;have w1:(IntKind.i64).wrap ((i:Int)+1)=((i+1:Nat):Int):=by rw[wrap_i64]<;>omega
   obtain⟨r,H',e1,e2,rfl⟩:=Q5y F pc hw hF hpl nid ng h17 h18 l[i] dv hdv;subst e2;have hcall:∀d,callOp Qg (Qn Tp Qg) 55 2 d 54 [.agg (J3 l[i] dv),.ptr 0 1 0] [F,[],[]]=_:=fun d=>Za rfl rfl rfl e1;have hS:Q8 (Yr nid ng) i (l.drop i)=if Yr nid ng l[i] then(i:Int) else Q8 (Yr nid ng) (i+1) (l.drop (i+1)):=by rw[Zqt h];rfl
   rw[hR] at hS;simp only[wX,↓Qc,simprocAttr,c1,at1,ld1,hcall,Zo8,Zpu];refine W.ite ?_ ?_<;>intro h2<;>simp only[wA,↓Qc,simprocAttr,ta,wH,w1]
   . refine W.done ?_;simp only[wA,↓Qc,simprocAttr];refine W.done (End.ret (v:= .int .i64 (Q8 (Yr nid ng) 0 l)) ?_ ⟨rfl,pop2 rfl hw⟩);rw[hS,h2];rfl
   . refine W.done ⟨i+1,rfl,rfl,⟨by omega,?_⟩,by omega⟩;rw[hS,h2];rfl
 . have c1:decide ((i:Int)<l.length)=false:=Zri (by omega);simp only[wA,↓Qc,simprocAttr,c1];refine W.done ?_;simp only[wA,↓Qc,simprocAttr];refine W.done (End.ret (v:= .int .i64 (Q8 (Yr nid ng) 0 l)) ?_ ⟨rfl,pop2 rfl hw⟩);rw[<-hR,Zqe (by omega)];rfl
theorem Qv6(v:V)(l:List Zy)(cs:List V)(hc:LinesC cs l)(hv:Qw 13 v cs l.length)(hl:l.length<=9223372036854775807)(F:AM.Frame)(pc:List V)(hw:Zg (fun f _=>Nat.ble 1 f) F=true)(hF:Xx F 1=some (.cells pc))(hpl:pc.length=19)(nid ng:Int)(h17:pc[17]?=some (.int .i64 nid))(h18:pc[18]?=some (.int .u32 ng)):
 CW Tp Qg 53 [v,.func (.func 54) [] [.ptr 0 1 0]] [F] fun r H=>r= .ret (.bool (l.any (Yr nid ng)))/\H=[F]:=by
 refine Zu Tryz.func53 rfl ?_;obtain⟨r,H',e1,e2,rfl⟩:=Qx1 v l cs hc hv hl F pc hw hF hpl nid ng h17 h18;subst e2;have hcall:∀d,callOp Qg (Qn Tp Qg) 53 1 d 55 [v,.func (.func 54) [] [.ptr 0 1 0]] [F,[]]=_:=fun d=>Za rfl rfl rfl e1;simp only[wX,↓Qc,simprocAttr,Tryz.ntmps53,Zp9,Zpt,Zo8,Zpu,hcall,Qhz];exact W.done (End.ret (v:= .bool (l.any (Yr nid ng))) rfl ⟨rfl,pop1 rfl hw⟩)
theorem _root_.Go.AM.ChangesC.ld{ls:List Qp}{cs:List V}{i:Nat}(h:ChangesC cs ls)(hi:i<ls.length):∃dv,Qnd dv ls[i].n/\(∀g,ldV Tp 43 g (.iptr cs (i*12))=some (.agg (Ql ls[i] dv))):=by obtain⟨dv,h1,h2⟩:=h.at_ (Zn1 hi);refine⟨dv,h2,fun g=>?_⟩;show Q3 Tp 43 cs (i*12)=_;have:=h.len;rw[Quz,if_pos (by omega),h1]
structure Q9u(bv wv sv mv lv kv ov cv:V)(d:Int)(space:List UInt8)(p:Kx):Prop where
 dev:Fz Tp Qg 74 [.agg [bv,wv]] fun x=>x= .int .i64 d
 frz:frz (fun _ _=>none) depth (.agg [bv,wv])=some (.agg [bv,wv])
 frz0:∀g m,AM.frz g (m+10) bv=some bv/\AM.frz g (m+10) wv=some wv
 nr:∀q,bv.refs q=false/\wv.refs q=false
 sb:bv.scalar=true
 sw:wv.scalar=true
 space:Qe sv space
 own:Xg mv p.own
 lines:Qid lv p.lines
 keys:Z2 kv p.keys
 loaded:Z2 ov p.loaded
 changes:Qt2 cv p.changes
 fit:p.own.length<=9223372036854775807/\p.lines.length<=9223372036854775807/\p.changes.length<=9223372036854775807/\p.keys.length<=9223372036854775807/\p.loaded.length<=9223372036854775807/\(∀k∈p.keys,k.length<=9223372036854775807)/\(∀k∈p.loaded,k.length<=9223372036854775807)
theorem Qns(a:Int):Fz Tp Qg 70 [.int .i64 a] fun x=>x= .bool (Qdz a):=by
 refine Zm Tryz.func70 rfl ?_;have cv:∀g,convertV Tp g 3 44 (.int .i64 a)=some (.val (.int .u64 ((IntKind.u64).wrap a)) none):=fun g=>by simp only[convertV,Zu3,Zu13]
 simp only[wA,↓Qc,simprocAttr,Tryz.ntmps70,cv];exact W.done (Q0.ret rfl rfl rfl)
theorem Qd5(bv wv:V)(bl:List (List UInt8))(wl:List (Int×List UInt8))(hb:Z2 bv bl)(hw:Jh wv wl)(b1:bl.length<=9223372036854775807)(w1:wl.length<=9223372036854775807):
 Fz Tp Qg 74 [.agg [bv,wv]] fun x=>x= .int .i64 (okE (Jn bl wl)):=by
 refine Fz.of_cw ?_;refine(?_:CW Tp Qg 74 [.agg [bv,wv]] [] fun x _=>x= .ret (.int .i64 (okE (Jn bl wl)))).mono (fun r H' h=>⟨_,h,_,rfl,rfl⟩);refine Zu Tryz.func74 rfl ?_;obtain⟨bcs,hbc,hbv⟩:=hb;obtain⟨wcs,hwc,hwv⟩:=hw;have lb:=hbv.len Zu1;have lw:=hwv.len Zu5;have bsc:bv.scalar=true:=Q4 hbv;have wsc:wv.scalar=true:=Q4 hwv;generalize hok:(((bl.length:Int)==256)&&decide ((wl.length:Int)<=4096))=ok0;have ldr:∀i:Nat,(h:i<bl.length)->∃v,Qe v bl[i]/\∀g,ldV Tp 26 g (.iptr bcs ((i:Int).toNat*1))=some v:=fun i hi=>by
  obtain⟨v,h1,h2⟩:=hbc.at_ hi;refine⟨v,h2,fun g=>?_⟩;have e:(i:Int).toNat*1=i:=by omega
  rw[e];show Q3 Tp 26 bcs i=_;rw[rd26,h1]
 cases hc1:((bl.length:Int)==256)<;>cases hc2:decide ((wl.length:Int)<=4096)
 all_goals
  have h00:=hok;rw[hc1,hc2] at h00;simp only[wX,↓Qc,simprocAttr,Tryz.ntmps74,wsc,bsc,lw,lb,hc1,hc2];refine W.ul ?_;refine W.loopS (kt:=[1,3,19,20,21]) rfl (fun i:Nat=>Ql7 (.ptr 0 1 0) (.bool (Qkz ok0 Xy bl i)) bv (.int .i64 bl.length) (.int .i64 i)) (fun i=>[[(1,.cells [bv,wv])]]) (fun i=>i<=bl.length) (fun i=>bl.length-i) ?_ 0 (Zq1 _) (by rw[Qth,<-h00];rfl) rfl;rintro i hi;simp only[Ql7];by_cases h:i<bl.length
  . have c1:decide ((i:Int)<bl.length)=true:=Zrh (by omega);have w1:(IntKind.i64).wrap ((i:Int)+1)=((i+1:Nat):Int):=by rw[wrap_i64]<;>omega
    obtain⟨v,hv,hf⟩:=ldr i h;have lv:=hv.len Zu0;have vs:=Q4 hv;have at1:=hbv.at (k:= .i64) Zu1 Qau (by decide) (i:=(i:Int)) (by omega) (by omega);have hn:=Qs0 ok0 Xy bl i h;cases hb:Qkz ok0 Xy bl i
    all_goals
     rw[hb] at hn;simp only[wA,↓Qc,simprocAttr,c1,at1,hf,ta,w1,lv,vs];exact W.done ⟨i+1,by rw[hn];rfl,rfl,by omega,by omega⟩
  . have c1:decide ((i:Int)<bl.length)=false:=Zri (by omega);have hacc:=Qyl ok0 Xy bl i (by omega);generalize Qkz ok0 Xy bl i=ok1 at*;simp only[wA,↓Qc,simprocAttr,c1];refine W.done ?_;simp only[wX,↓Qc,simprocAttr,wsc,lw];refine W.ul ?_;refine W.loop (fun(j:Nat) t H=>∃F:AM.Frame,Jg [3,33,34,35] t 0=Qgq (.bool (Qkz ok1 Qdd wl j)) wv (.int .i64 wl.length) (.int .i64 j)/\j<=wl.length/\H=[F]/\(F=[(1,.cells [bv,wv])]\/∃x,F=[(1,.cells [bv,wv]),(7,.cells x)])) (fun j=>wl.length-j) ?_ 0 ⟨_,by rw[Qth];rfl,Zq1 _,rfl,.inl rfl⟩;rintro j t H ⟨F,ht,hj,rfl,hF⟩;have hd:([F]:Heap).modify 0 (Ju fun s=>[7].contains s)=[[(1,.cells [bv,wv])]]:=by
     rcases hF with rfl|⟨x,rfl⟩<;>rfl
    have wvr:wv.refs (fun f s=>f==0&&[7].contains s)=false:=hwv.noRefs _;have bvr:bv.refs (fun f s=>f==0&&[7].contains s)=false:=hbv.noRefs _;refine⟨_,_,Z7 (kt:=[3,33,34,35]) (ds:=[7]) rfl ?_ ?_,?_⟩
    . rw[ht];simp only[Qgq,Qi,V.refs,wvr];simp
    . rw[hd];simp only[Q2,Zg,O.refs,Qi,V.refs,wvr,bvr];simp
    rw[ht,hd];simp only[Qgq];by_cases h2:j<wl.length
    . have c2:decide ((j:Int)<wl.length)=true:=Zrh (by omega);have w2:(IntKind.i64).wrap ((j:Int)+1)=((j+1:Nat):Int):=by rw[wrap_i64]<;>omega
      obtain⟨e1,v,e2,hv⟩:=hwc.at_ h2;have lv:=hv.len Zu0;have vs:=Q4 hv;have at1:=hwv.at (k:= .i64) Zu5 Qcm (by decide) (i:=(j:Int)) (by omega) (by omega);have ldw:∀g,ldV Tp 101 g (.iptr wcs ((j:Int).toNat*2))=some (.agg [.int .i64 wl[j].1,v]):=fun g=>by
       have e:(j:Int).toNat*2=2*j:=by omega
       have hl:=hwc.len;rw[e];show Q3 Tp 101 wcs (2*j)=_;rw[Q32,if_pos (by omega)];have d1:wcs.drop (2*j)=V.int .i64 wl[j].1::v::wcs.drop (2*j+1+1):=by rw[Zqt (by omega:2*j<wcs.length),Zqt (by omega:2*j+1<wcs.length)];rw[Zn1 (by omega)] at e1 e2;rw[Option.some.inj e1,Option.some.inj e2]
       rw[d1];rfl
      obtain⟨m,rfl,hm⟩:=(Qns wl[j].1).op (by rfl) rfl;have hm' :∀s H,_:=fun s H=>hm 74 0 s H rfl;have hn:=Qs0 ok1 Qdd wl j h2;cases hb:Qkz ok1 Qdd wl j<;>cases hp:Qdz wl[j].1
      all_goals
       rw[hb] at hn;simp only[Qdd,hp] at hn;rw[hp] at hm';simp only[wX,↓Qc,simprocAttr,c2,at1,ldw,w2,hm',lv,vs];exact W.done ⟨j+1,⟨_,by rw[hn];rfl,by omega,rfl,.inr ⟨_,rfl⟩⟩,by omega⟩
    . have c2:decide ((j:Int)<wl.length)=false:=Zri (by omega);have hacc2:=Qyl ok1 Qdd wl j (by omega);have hfin:Jn bl wl=Qkz ok1 Qdd wl j:=by
       rw[hacc2,hacc,<-hok];rfl
      rw[hfin];generalize Qkz ok1 Qdd wl j=ok2 at*;simp only[wA,↓Qc,simprocAttr,c2];refine W.done ?_;cases ok2
      all_goals
       simp only[wA,↓Qc,simprocAttr];exact W.done (End.ret rfl rfl)
theorem Qrb(L:List (Int×V)):∀(seen:List Nat) (rv:List V) (v:V),v∈Jk L seen rv->v∈rv\/∃p∈L,p.2=v
 |[],rv,v,h=> .inl h
 |b::seen,rv,v,h=>by
  have h' :v∈Jk L seen (Qbp L rv b):=h;rcases Qrb L seen _ v h' with h1|h1
  . unfold Qbp at h1;split at h1
    . rename_i k w hb;rcases Zq6 h1 with h2|h2
      . exact .inl h2
      . exact .inr ⟨_,Zqq hb,h2.symm⟩
    . exact .inl h1
  . exact .inr h1
theorem Qfm(l:List UInt8):(Qb l).all Qiz=true:=by rw[Zor];intro x hx;simp only[Qb,Zpc] at hx;obtain⟨b,_,rfl⟩:=hx;rfl
theorem Qe2{l:List UInt8}(h:l.length=256):Jv (Qb l):=⟨by rw[Qy,h],Qfm l⟩
theorem Qcu{v:V}{l:List UInt8}(h:Qe v l)(hl:l.length=256):∃f,v= .iS (Qb l) 256 f:=by
 obtain⟨_,⟨rfl,h0⟩|⟨f,rfl⟩⟩:=h
 . omega
 . exact⟨f,by rw[hl]⟩
def Kb(l:List (List UInt8)):V:= .iS (l.map fun r=> .iS (Qb r) 256 true) 256 false
theorem Q8u{bv wv:V}{bl:List (List UInt8)}{wl:List (Int×List UInt8)}(hb:Z2 bv bl)(hw:Jh wv wl)(w0:∀w∈wl,-9223372036854775808<=w.1/\w.1<=9223372036854775807)(ok:Jn bl wl=true):
 Fz Tp Qg 33 [.agg [bv,wv],.func (.func 34) [] []] fun x=>∃rows:List (List UInt8),rows.length=256/\(∀r∈rows,r.length=256)/\x= .agg [Kb rows,.nS]:=by
 simp only[Jn,Zok,Zor,beq_iff_eq,decide_eq_true_eq] at ok;obtain⟨⟨⟨k1,k2⟩,k3⟩,k4⟩:=ok;obtain⟨bcs,hbc,hbv⟩:=hb;obtain⟨wcs,hwc,hwv⟩:=hw;have hbl:=hbc.len;obtain⟨_,⟨rfl,h0⟩|⟨fl,rfl⟩⟩:=hbv
 . omega
 have k1' :bl.length=256:=by omega
 have hr3:∀b∈bl,b.length=256:=fun b h=>by have:=k3 b h;simp only[Xy,beq_iff_eq] at this;omega
 have hr:∀i,i<256->∃f,bcs[i]?=some (.iS (Qb (bl.getD i [])) 256 f):=fun i hi=>by obtain⟨v,h1,h2⟩:=hbc.at_ (i:=i) (by omega);obtain⟨f,rfl⟩:=Qcu h2 (hr3 _ (Zp8 _));refine⟨f,?_⟩;rw[h1,Zq7,Zn1 (by omega)];rfl
 have hwt:∀j,(h:j<wl.length)->0<=wl[j].1/\wl[j].1<256/\wl[j].2.length=256:=fun j h=>by have h1:=k4 _ (Zp8 h);have h2:=w0 _ (Zp8 h);simp only[Qdd,Qdz,Xy,Zok,decide_eq_true_eq,beq_iff_eq] at h1;obtain⟨h3,h4⟩:=h1;simp only[IntKind.wrap,IntKind.bits,IntKind.signed,Zqy,Zn5,if_false] at h3;refine⟨?_,?_,by omega⟩<;>omega
 generalize hA:(fun j:Nat=>(wl.getD j (0,[])).1)=a;generalize hD:(fun j:Nat=>wcs.getD (2*j+1) .bad)=dv;have ha:∀j,(h:j<wl.length)->a j=wl[j].1:=fun j h=>by rw[<-hA];simp only[Zq7,Zn1 h,Zpb]
 have hdv:∀j,(h:j<wl.length)->∃f,dv j= .iS (Qb wl[j].2) 256 f:=fun j h=>by obtain⟨_,v,h1,h2⟩:=hwc.at_ h;obtain⟨f,rfl⟩:=Qcu h2 (hwt j h).2.2;refine⟨f,?_⟩;rw[<-hD];simp only[Zq7,h1,Zpb]
 generalize hS:Jk (Xk a dv wl.length) (List.range (Xk a dv wl.length).length) bcs=S;have hSl:S.length=256:=by rw[<-hS,B7,hbl,k1']
 have hSm:∀v∈S,∃l:List UInt8,∃f,l.length=256/\v= .iS (Qb l) 256 f:=fun v hv=>by
  rw[<-hS] at hv;rcases Qrb _ _ _ _ hv with h|⟨p,hp,rfl⟩
  . obtain⟨i,hi⟩:=Zos.1 h;have hi' :i<256:=by rw[<-k1',<-hbl];exact(Zoq.1 hi).1
    obtain⟨f,hf⟩:=hr i hi';rw[hi] at hf;refine⟨_,f,?_,Option.some.inj hf⟩;rw[Zq7,Zn1 (by omega)];exact hr3 _ (Zp8 _)
  . obtain⟨j,hj,e⟩:=Qmk a dv _ p hp;obtain⟨f,hf⟩:=hdv j hj;exact⟨_,f,(hwt j hj).2.2,by rw[e,hf]⟩
 have hrows:∃rows:List (List UInt8),rows.length=256/\(∀r∈rows,r.length=256)/\∀i,i<256->∃f,S[i]?=some (.iS (Qb (rows.getD i [])) 256 f):=by
  clear hS;have key:∀S:List V,(∀v∈S,∃l:List UInt8,∃f,l.length=256/\v= .iS (Qb l) 256 f)->∃rows:List (List UInt8),rows.length=S.length/\(∀r∈rows,r.length=256)/\∀i,i<S.length->∃f,S[i]?=some (.iS (Qb (rows.getD i [])) 256 f):=by
   intro S
   induction S with
   |nil=>intro _;exact⟨[],rfl,(fun _ h=>by cases h),fun i h=>absurd h (Nat.not_lt_zero i)⟩
   |cons v S ih=>
    intro h;obtain⟨rows,e1,e2,e3⟩:=ih fun w hw=>h w (Zpk _ hw);obtain⟨l,f,e4,rfl⟩:=h v (by simp);refine⟨l::rows,by simp[e1],Zq8.2 ⟨e4,e2⟩,fun i hi=>?_⟩;cases i with
    |zero=>exact⟨f,rfl⟩
    |succ i=>
     obtain⟨g,hg⟩:=e3 i (by simpa using hi);exact⟨g,by simpa using hg⟩
  obtain⟨rows,e1,e2,e3⟩:=key S hSm;exact⟨rows,by rw[e1,hSl],e2,fun i hi=>e3 i (by omega)⟩
 obtain⟨rows,r1,r2,r3⟩:=hrows;have hrow:∀i,i<256->Jv (Qb (rows.getD i [])):=fun i hi=>by refine Qe2 ?_;rw[Zq7,Zn1 (by omega)];exact r2 _ (Zp8 _)
 rw[k1'] at*;refine(Q37 bcs fl (fun i=>Qb (bl.getD i [])) (by omega) hr (fun i hi=>Qe2 ?_) wv wcs wl.length hwv (by omega) a dv (fun j hj=>?_) (fun j hj=>?_) (fun j hj=>?_) (fun i=>Qb (rows.getD i [])) (by rw[hS];exact r3) hrow (.func (.func 34) [] []) (.inl rfl) (fun p=>rfl)).mono ?_
 . rw[Zq7,Zn1 (by omega)];exact hr3 _ (Zp8 _)
 . obtain⟨e1,v,e2,_⟩:=hwc.at_ hj;refine⟨by rw[e1,ha j hj],?_⟩;rw[<-hD];simp only[Zq7,e2,Zpb]
 . rw[ha j hj];exact⟨(hwt j hj).1,(hwt j hj).2.1⟩
 . obtain⟨f,hf⟩:=hdv j hj;exact⟨_,f,hf,Qe2 (hwt j hj).2.2⟩
 . rintro x rfl;refine⟨rows,r1,r2,?_⟩;have e:((List.range 256).map fun j=>V.iS (Qb (rows.getD j [])) 256 true)=rows.map fun r=> .iS (Qb r) 256 true:=by
    apply Zpi;intro i;by_cases hi:i<256
    . simp only[Zqv,List.getElem?_range hi,Zn2,Zq7,Zn1 (by omega:i<rows.length),Zpb]
    . rw[Zn4 (by simp;omega),Zn4 (by simp;omega)]
   simp only[Q0n,Kb,if_true,e]
theorem Qad{esz n:Nat}{v:V}{cells:List V}(h:Qw esz v cells n):v.pure=true:=by obtain⟨_,⟨rfl,_⟩|⟨f,rfl⟩⟩:=h<;>rfl
theorem Qhg(rows:List (List UInt8))(h:rows.length=256):Qw 1 (Kb rows) (rows.map fun r=> .iS (Qb r) 256 true) 256:=⟨by simp[h],.inr ⟨false,rfl⟩⟩
theorem K3{g:Get}{l l' :List V}(h:Q5 (AM.frz g 11) l=some l'):AM.frz g depth (.tuple l)=some (.tuple l'):=by show Option.map V.tuple (Q5 (AM.frz g 11) l)=_;rw[h];rfl
theorem Qei{g:Get}{n:Nat}{l l' :List V}(h:Q5 (AM.frz g n) l=some l'):AM.frz g (n+1) (.agg l)=some (.agg l'):=by show Option.map V.agg (Q5 (AM.frz g n) l)=_;rw[h];rfl
theorem Ks{bv wv:V}{bl:List (List UInt8)}{wl:List (Int×List UInt8)}(hb:Z2 bv bl)(hw:Jh wv wl)(g:Get):frz g depth (.agg [bv,wv])=some (.agg [bv,wv]):=by obtain⟨bcs,hbc,hbv⟩:=hb;obtain⟨wcs,hwc,hwv⟩:=hw;show Option.map V.agg (Q5 (AM.frz _ 11) [bv,wv])=_;rw[Qa (hbv.frz 10) (Qa (hwv.frz 10) rfl)];rfl
def RBlk(x:V):Prop:=∃(v:V) (e:Int),x= .tuple [v,.int .i64 e]/\((e=0/\∃l:List UInt8,Qe v l/\l.length=256)\/(e≠0/\v= .nS))
theorem Qmq:∀l:List Yb,(Xi l).all Qiz=true
 |[]=>rfl
 |p::l=>by
  have e:Xi (p::l)=p.cells++Xi l:=rfl;rw[e,Zqf,Qmq l];rfl
theorem Qxy{H:Heap}{fr s st f r:Nat}{t t0:List V}(hg:Qd H fr s=some (.loop st (some none) f r t0))(hst:st≠1)(h1:Qi (Jd fr s) t=false)(h2:Q2 (Jd fr s) (H.modify fr (Ju fun x=>[s].contains x))=true):
 K0 fr s t H=some (.ret,t,H.modify fr (Ju fun x=>[s].contains x)):=by
 simp only[K0,hg,if_neg hst,h1,h2,Zn5,if_false,if_true]
theorem Qtt{b:Nat}{v:V}{H:Heap}(h:Q2 (fun f _=>Nat.ble b f) (H.take b)=false):Yk b v H=H:=by unfold Yk;rw[h,Bool.and_false];rfl
theorem Qms:∀{c:List V},c.all Qiz=true->Qu c=true
 |[],_=>rfl
 |x::c,h=>by
  simp only[Zqn,Zok] at h;have hx:x.pure=true:=by cases x<;>first|rfl|(cases h.1)
  simp only[Qu,hx,Qms h.2,Zqc]
theorem byP:byt Tp 31=some 24:=by kernel_rfl
theorem Q7{esz n:Nat}{v:V}{cells:List V}(h:Qw esz v cells n):v.cells=some [v]:=by obtain⟨_,⟨rfl,_⟩|⟨f,rfl⟩⟩:=h<;>rfl
theorem Qn1{t:List V}{i:Nat}{x:V}(h:i<t.length):(t.set i x)[i]?=some x:=by simp[h]
theorem Qnu{t:List V}{i j:Nat}{x:V}(h:(i==j)=false):(t.set i x)[j]?=t[j]?:=by
 have:i≠j:=by simpa using h
 simp[Zqd,this]
end
end Go.Proofs.YtjllfbejpjonnaaGreatDoor
