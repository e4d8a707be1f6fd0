/- This file holds in one the texts E2, E3, E4, E5, E6, E7, E8, DM, E9; each says at its head what it proves. -/
import Derived.Test.YtidniacddkalaaaGreatDoorT23
import Derived.Test.YtidniacddkalaaaGreatDoorT25
import Derived.Test.YtidniacddkalaaaGreatDoorT29
import Derived.Test.YtidniacddkalaaaGreatDoorT30
import Derived.Test.YtidniacddkalaaaGreatDoorT32
set_option linter.unusedSimpArgs false
set_option linter.unusedVariables false
namespace Go.Proofs.YtidniacddkalaaaGreatDoor
section
set_option maxRecDepth 100000
open Go.AM
attribute [local irreducible] U W
theorem _root_.Go.AM.LinesC.ld{ls:List Zt}{cs:List V}{i:Nat}(h:LinesC cs ls)(hi:i<ls.length):∃dv,Jn dv ls[i].dead/\(∀g,ldV Tryz.prog 57 g (.iptr cs (i*13))=some (.agg (Zu ls[i] dv))):=by obtain⟨dv,h1,h2⟩:=h.at_ (Zra hi);refine⟨dv,h2,fun g=>?_⟩;show Qn Tryz.prog 57 cs (i*13)=_;have:=h.len;rw[rd57,if_pos (by omega),h1]
theorem Qvc(g:Get)(n:Nat)(h:n<=281474976710656):convertV Tryz.prog g 3 160 (.int .i64 (n:Int))=some (.val (.int .u64 (n:Int)) none):=by
 have w:(IntKind.u64).wrap (n:Int)=(n:Int):=by simp only[IntKind.wrap,IntKind.bits,IntKind.signed,Zt8,Zre,if_false];omega
 simp only[convertV,Tryz.underlying3,Tryz.underlying160,w]
theorem Qt4(g:Get)(n:Nat)(h:n<=281474976710656):convertV Tryz.prog g 160 3 (.int .u64 (n:Int))=some (.val (.int .i64 (n:Int)) none):=by simp only[convertV,Tryz.underlying3,Tryz.underlying160,wrap_i64 (n:=(n:Int)) (by omega) (by omega)]
theorem Qy4(l:Zt)(dv:V)(hd:Jn dv l.dead)(id:Int):Fz Tryz.prog Qg 119 [.agg (Zu l dv),.int .i64 id] fun x=>x= .int .i64 (Qal l.id id):=by refine Qw Tryz.func119 rfl ?_;have sc:=Ze hd;obtain⟨m,rfl,hm⟩:=(Bm l.id id).op (by rfl) rfl;have hm1:∀s H,_:=fun s H=>hm 119 0 s H rfl;simp only[wA,↓Qc,simprocAttr,Tryz.ntmps119,ta,wH,wB,Zu,sc,hm1];exact W.done (Qk.ret rfl rfl rfl)
theorem Q7g(v:V)(ls:List Zt)(hv:Qij v ls)(hl:ls.length<=1000000)(id:Int):
 Fz Tryz.prog Qg 118 [v,.int .i64 id,.func (.func 119) [] []] fun x=>x= .tuple [.int .i64 (bs (B7 ls id) ls.length),.bool (Qb0 (B7 ls id) ls.length)]:=by
 refine Qw Tryz.func118 rfl ?_;obtain⟨cs,hc,hv⟩:=hv;have len:=hv.len Tryz.underlying33;have sc:=Ze hv;simp only[wA,↓Qc,simprocAttr,Tryz.ntmps118,ta,wH,wB,len];refine W.ul ?_;refine W.loopS (kt:=[0,1,2,8,9,10]) rfl (fun a:Nat×Nat=>Q4x v (.int .i64 id) (.func (.func 119) [] []) (.int .i64 ls.length) (.int .i64 a.1) (.int .i64 a.2)) (fun _=>[[]])
  (fun a=>a.1<=a.2/\a.2<=ls.length/\Qe3 (B7 ls id) (a.2-a.1) a.1 a.2=bs (B7 ls id) ls.length) (fun a=>a.2-a.1) ?_ (0,ls.length) ⟨by simp,by simp,rfl⟩ rfl rfl
 rintro⟨i,j⟩ ⟨hij,hj,hR⟩;simp only at hij hj hR;simp only[Q4x];by_cases h:i<j
 . have c1:decide ((i:Int)<j)=true:=Zum (by omega);have wa:(IntKind.i64).wrap ((i:Int)+j)=((i+j:Nat):Int):=by rw[wrap_i64]<;>omega
   have hm:(i+j)/2<ls.length:=by omega
   have at1:=hv.at (k:= .i64) Tryz.underlying33 Qnt (by decide) (i:=(((i+j)/2:Nat):Int)) (by omega) (by omega);obtain⟨dv,hd,ld⟩:=hc.ld hm;have ld' :∀g,ldV Tryz.prog 57 g (.iptr cs ((((i+j)/2:Nat):Int).toNat*13))=_:=ld;have cv1:=fun g=>Qvc g (i+j) (by omega);have cv2:=fun g=>Qt4 g ((i+j)/2) (by omega);have sh:∀p q,Zp Tryz.prog .shr 160 p q (.int .u64 ((i+j:Nat):Int)) (.int .u64 1)=_:=fun p q=>Q0q (i+j);obtain⟨m,rfl,hm2⟩:=(Qy4 ls[(i+j)/2] dv hd id).op (by rfl) (Qa (Qbx hd) rfl);have hm3:∀s H,_:=fun s H=>hm2 118 0 s H rfl;have eL:B7 ls id ((i+j)/2)=Qal ls[(i+j)/2].id id:=by simp only[B7,Zra hm]
   have w1:(IntKind.i64).wrap ((((i+j)/2:Nat):Int)+1)=(((i+j)/2+1:Nat):Int):=by rw[wrap_i64]<;>omega
   rw[<-eL] at hm3;simp only[wA,↓Qc,simprocAttr,c1,wa,at1,ld',cv1,cv2,sh,hm3,ta,wH,wB];refine W.ite ?_ ?_<;>intro h2<;>simp only[wA,↓Qc,simprocAttr,ta,wH,wB,w1]
   . exact W.done ⟨((i+j)/2+1,j),rfl,rfl,⟨by simp only;omega,hj,by rw[<-hR,Q12 h h2]⟩,by simp only;omega⟩
   . exact W.done ⟨(i,(i+j)/2),rfl,rfl,⟨by simp only;omega,by simp only;omega,by rw[<-hR,Q2d h h2]⟩,by simp only;omega⟩
 . have c1:decide ((i:Int)<j)=false:=Zun (by omega);have e:i=j:=by omega
   subst e;have hi:i=bs (B7 ls id) ls.length:=by rw[<-hR,Zt5];rfl
   have key:Qb0 (B7 ls id) ls.length=(decide (i<ls.length)&&decide (B7 ls id i=0)):=by rw[Qb0,<-hi]
   rw[key,<-hi];simp only[wA,↓Qc,simprocAttr,c1];refine W.done ?_;by_cases h2:i<ls.length
   . have c2:decide ((i:Int)<ls.length)=true:=Zum (by omega);have at1:=hv.at (k:= .i64) Tryz.underlying33 Qnt (by decide) (i:=(i:Int)) (by omega) (by omega);obtain⟨dv,hd,ld⟩:=hc.ld h2;have ld' :∀g,ldV Tryz.prog 57 g (.iptr cs ((i:Int).toNat*13))=_:=ld;obtain⟨m,rfl,hm2⟩:=(Qy4 ls[i] dv hd id).op (by rfl) (Qa (Qbx hd) rfl);have hm3:∀s H,_:=fun s H=>hm2 118 0 s H rfl;have eL:B7 ls id i=Qal ls[i].id id:=by simp only[B7,Zra h2]
     rw[<-eL] at hm3;have e0:(B7 ls id i==0)=decide (B7 ls id i=0):=rfl;simp only[wA,↓Qc,simprocAttr,c2,at1,ld',hm3,e0,ta,wH,wB];rw[Zum h2,Zsy];exact W.done (Qk.ret rfl rfl rfl)
   . have c2:decide ((i:Int)<ls.length)=false:=Zun (by omega);simp only[wA,↓Qc,simprocAttr,c2,ta,wH,wB];rw[Zun h2,Zt8];exact W.done (Qk.ret rfl rfl rfl)
theorem Qus(v:V)(ls:List Zt)(cs:List V)(hc:LinesC cs ls)(hv:Q0 13 v cs ls.length)(hl:ls.length<=1000000)(id:Int):
 Fz Tryz.prog Qg 71 [v,.int .i64 id] fun x=>x=(match Qc9 ls id with|some i=> .iptr cs (i*13)|none=> .nP):=by
 refine Qw Tryz.func71 rfl ?_;obtain⟨m,rfl,hm⟩:=(Q7g v ls ⟨cs,hc,hv⟩ hl id).op (by rfl) (Qa (hv.frz _) rfl);have hm1:∀s H,_:=fun s H=>hm 71 0 s H rfl;simp only[wA,↓Qc,simprocAttr,Tryz.ntmps71,ta,wH,wB,hm1];refine W.ite ?_ ?_<;>intro h<;>simp only[wA,↓Qc,simprocAttr,ta,wH,wB]
 . have h' :Qb0 (B7 ls id) ls.length=false:=by simpa using h
   exact W.done (Qk.ret rfl rfl (by simp only[Qc9,h'];rfl))
 . have h' :Qb0 (B7 ls id) ls.length=true:=by simpa using h
   have hlt:bs (B7 ls id) ls.length<ls.length:=by simp only[Qb0,Zr1] at h';exact of_decide_eq_true h'.1
   have at1:=hv.at (k:= .i64) Tryz.underlying33 Qnt (by decide) (i:=((bs (B7 ls id) ls.length:Nat):Int)) (by omega) (by omega);simp only[wA,↓Qc,simprocAttr,ta,wH,wB,at1];refine W.done (Qk.ret rfl rfl ?_);simp only[Qc9,h',if_true];rfl
theorem Qb7(x y:Operand):Zp Tryz.prog .eql 136 x y .nP .nP=some (.bool true):=by
 have hg:(Tryz.prog).eqGuardType (Tryz.prog).depth 136=false:=by kernel_rfl
 simp only[Zp,Qkk,Tryz.underlying136,hg,eqV,Zre,if_false];rfl
theorem Qca(x y:Operand)(cs:List V)(o:Nat):Zp Tryz.prog .eql 136 x y (.iptr cs o) .nP=some (.bool false):=by
 have hg:(Tryz.prog).eqGuardType (Tryz.prog).depth 136=false:=by kernel_rfl
 simp only[Zp,Qkk,Tryz.underlying136,hg,eqV,Zre,if_false];rfl
theorem kin_fz(v:V)(ls:List Zt)(hv:Qij v ls)(hl:ls.length<=1000000)(x:Zt)(dv:V)(hd:Jn dv x.dead):
 Fz Tryz.prog Qg 115 [v,.agg (Zu x dv)] fun y=>y= .bool (Qs6 ls x):=by
 refine Qw Tryz.func115 rfl ?_;obtain⟨cs,hc,hv⟩:=hv;have sc:=Ze hd;have sv:=Ze hv;obtain⟨m,rfl,hm⟩:=(Qus v ls cs hc hv hl x.owner).op (by rfl) (Qa (hv.frz _) rfl);have hm1:∀s H,_:=fun s H=>hm 115 0 s H rfl;obtain⟨m,rfl,hm⟩:=(Qus v ls cs hc hv hl x.prev).op (by rfl) (Qa (hv.frz _) rfl);have hm2:∀s H,_:=fun s H=>hm 115 0 s H rfl;obtain⟨id,kind,owner,prev,txg,guid,key,root,dead⟩:=x;obtain⟨ra,rb,rc,rd,re⟩:=root;simp only at hm1 hm2 hd sc;cases hO:Qc9 ls owner with
 |none=>
  simp only[hO] at hm1;have hF:∀r,Qs6 ls ⟨id,kind,owner,prev,txg,guid,key,r,dead⟩=false:=fun r=>by simp only[Qs6,Xl,hO]
  rw[hF];generalize(match Qc9 ls prev with|some i=>V.iptr cs (i*13)|none=>V.nP)=pv at hm2;simp only[wA,↓Qc,simprocAttr,Tryz.ntmps115,ta,wH,wB,Zu,sc,hm1,hm2,Qb7,Qca]
  repeat' ((first|refine W.guardF ?_ ?_|refine W.guardT ?_ ?_|refine W.guardXF ?_ ?_|refine W.guardXT ?_ ?_|refine W.ite ?_ ?_|refine W.opsK1 (by kernel_rfl) ?_)<;>intro h<;>simp only[wA,↓Qc,simprocAttr,h,ta,wH,wB,Qb7,Qca])
  all_goals refine W.done (Qk.ret rfl rfl ?_)
  all_goals first|rfl|(simp only[*,Jy,if_true,if_false];try rfl)
 |some i=>
  have hi:=Qmp hO;obtain⟨i1,i2,i3,i4⟩:=hc.cells hi;have hOf:Xl ls owner=some ls[i]:=by simp only[Xl,hO,Zra hi]
  simp only[hO] at hm1;cases hP:Qc9 ls prev with
  |none=>
   have hPf:Xl ls prev=none:=by simp only[Xl,hP]
   simp only[hP] at hm2;simp only[wA,↓Qc,simprocAttr,Tryz.ntmps115,ta,wH,wB,Zu,sc,hm1,hm2,Qb7,Qca,i1,i2,i3,i4]
   repeat' ((first|refine W.guardF ?_ ?_|refine W.guardT ?_ ?_|refine W.guardXF ?_ ?_|refine W.guardXT ?_ ?_|refine W.ite ?_ ?_|refine W.opsK1 (by kernel_rfl) ?_)<;>intro h<;>simp only[wA,↓Qc,simprocAttr,h,ta,wH,wB,Qb7,Qca,i1,i2,i3,i4])
   all_goals refine W.done (Qk.ret rfl rfl ?_)
   all_goals first|rfl|(simp only[Qs6,hOf,hPf, *,Jy,if_true,if_false];try rfl)
  |some j=>
   have hj:=Qmp hP;obtain⟨j1,j2,j3,j4⟩:=hc.cells hj;have hPf:Xl ls prev=some ls[j]:=by simp only[Xl,hP,Zra hj]
   simp only[hP] at hm2;simp only[wA,↓Qc,simprocAttr,Tryz.ntmps115,ta,wH,wB,Zu,sc,hm1,hm2,Qb7,Qca,i1,i2,i3,i4,j1,j2,j3,j4]
   repeat' ((first|refine W.guardF ?_ ?_|refine W.guardT ?_ ?_|refine W.guardXF ?_ ?_|refine W.guardXT ?_ ?_|refine W.ite ?_ ?_|refine W.opsK1 (by kernel_rfl) ?_)<;>intro h<;>simp only[wA,↓Qc,simprocAttr,h,ta,wH,wB,Qb7,Qca,i1,i2,i3,i4,j1,j2,j3,j4])
   all_goals refine W.done (Qk.ret rfl rfl ?_)
   all_goals first|rfl|(simp only[Qs6,hOf,hPf, *,Jy,if_true,if_false];try rfl)
theorem Q4p(l:List Zq)(i:Nat)(h:i<l.length)(g:Get):ldV Tryz.prog 31 g (.iptr (Zg l) (i*5))=some (.agg l[i].cells):=by show Qn Tryz.prog 31 (Zg l) (i*5)=_;have:=Br l;rw[rd31,if_pos (by omega),Qkq l i h]
set_option maxHeartbeats 4000000 in
theorem Qvj(v:V)(l:List Zq)(hv:Jn v l):Fz Tryz.prog Qg 114 [v] fun x=>x= .int .i64 (okE (Qmc l)):=by
 refine Qw Tryz.func114 rfl ?_;have len:=hv.len Tryz.underlying55;simp only[wA,↓Qc,simprocAttr,Tryz.ntmps114,ta,wH,wB,len];refine W.ite ?_ ?_<;>intro h<;>simp only[wA,↓Qc,simprocAttr,ta,wH,wB,len]
 . exact W.done (Qk.ret rfl rfl (by simp only[Qmc,h];rfl))
 have hl:l.length<=240:=by have:=of_decide_eq_false h;omega
 have hD:Qmc l=Qht none l:=by simp only[Qmc,h];rfl
 rw[hD];refine W.ul ?_;refine W.loop (fun(i:Nat) t H=>∃F:AM.Frame,Yf [0,8,9,10] t 0=Qtc v v (.int .i64 l.length) (.int .i64 i)/\i<=l.length/\H=[F]/\(F=[]\/∃x,F=[(4,.cells x)])/\Qht (before l i) (l.drop i)=Qht none l) (fun i=>l.length-i) ?_ 0 ⟨_,rfl,by omega,rfl,.inl rfl,rfl⟩ rfl;rintro i t H ⟨F,ht,hi,rfl,hF,hR⟩;have hd:([F]:Heap).modify 0 (Jb fun s=>[4].contains s)=[[]]:=by rcases hF with rfl|⟨x,rfl⟩<;>rfl
 have vr:v.refs (fun f s=>f==0&&[4].contains s)=false:=hv.noRefs _;refine⟨_,_,Jh (kt:=[0,8,9,10]) (ds:=[4]) rfl ?_ ?_,?_⟩
 . rw[ht];simp only[Qtc,Qi,V.refs,vr];simp
 . rw[hd];simp only[Qz,Zb,O.refs,Qi,V.refs];simp
 rw[ht,hd];simp only[Qtc];by_cases h:i<l.length
 . have c1:decide ((i:Int)<l.length)=true:=Zum (by omega);have at1:=hv.at (k:= .i64) Tryz.underlying55 Qqa (by decide) (i:=(i:Int)) (by omega) (by omega);have ld1:∀g,ldV Tryz.prog 31 g (.iptr (Zg l) ((i:Int).toNat*5))=_:=fun g=>Q4p l i h g;have w1:(IntKind.i64).wrap ((i:Int)+1)=((i+1:Nat):Int):=by rw[wrap_i64]<;>omega
   obtain⟨m,rfl,hm⟩:=(Km l[i]).op (by rfl) rfl;have hm1:∀s H,_:=fun s H=>hm 114 0 s H rfl;have hq:=fun x y=>Qjv (x:=x) (y:=y) l[i] J3;have hS:Qht (before l i) (l.drop i)=if decide (l[i]=J3)||(!(Yp l[i])||(match before l i with|some q=>decide (Qal q.at_ l[i].at_>=0)|none=>false)) then false else Qht (before l (i+1)) (l.drop (i+1)):=by
    rw[Zue h];have e:before l (i+1)=some l[i]:=by simp only[before,Zra h]
    rw[e];rfl
   rw[hR] at hS;generalize hp:l[i]=p at*;obtain⟨a,b,c,d,e⟩:=p;simp only[Zq.cells,J3] at ld1 hm1 hq hS;generalize hnx:Qht (before l (i+1)) (l.drop (i+1))=nx at hS;cases i with
   |zero=>
    have c0:decide (((0:Nat):Int)>0)=false:=rfl;have hb0:before l 0=none:=rfl;simp only[hb0] at hS;simp only[Qmi,Qe2,Qfd,Zr,Q9,Y9,nov,gd,rho,Qu,wr,Nat.reduceAdd,Nat.reduceSub,if_true,if_false,reduceIte,reduceCtorEq,Nat.reduceLT,Nat.reduceEqDiff,Nat.reduceMul,Nat.reduceLeDiff,Qgq,Int.reduceBEq,Int.reduceBNe,Int.reduceLT,Int.reduceLE,↓Qc,c1,at1,ld1,hm1,hq,c0,Xr,ta,wH,wB]
    repeat' ((first|refine W.guardF ?_ ?_|refine W.guardT ?_ ?_|refine W.guardXF ?_ ?_|refine W.guardXT ?_ ?_|refine W.ite ?_ ?_|refine W.opsK1 (by kernel_rfl) ?_)<;>intro h<;>simp only[wA,↓Qc,simprocAttr,h,hm1,hq,c0,Xr,ta,wH,wB])
    all_goals first
    |(refine W.done ?_
      simp only[wA,↓Qc,simprocAttr];refine W.done (Qk.ret rfl rfl ?_);rw[hS];simp only[*,Jy,if_true,if_false,okE]
      try rfl)
    |(try simp only[wA,↓Qc,simprocAttr,w1,(rfl:(IntKind.i64).wrap 1=1)]
      refine W.done ⟨0+1,⟨_,rfl,by omega,rfl,.inr ⟨_,rfl⟩,?_⟩,by omega⟩;rw[hS,hnx];simp only[*,Jy,if_true,if_false]
      try rfl)
   |succ k=>
    have c0:decide (((k+1:Nat):Int)>0)=true:=Zum (by omega);have wk:(IntKind.i64).wrap (((k+1:Nat):Int)-1)=((k:Nat):Int):=by rw[wrap_i64]<;>omega
    have hk:k<l.length:=by omega
    have at2:=hv.at (k:= .i64) Tryz.underlying55 Qqa (by decide) (i:=(k:Int)) (by omega) (by omega);have ld2:∀g,ldV Tryz.prog 31 g (.iptr (Zg l) ((k:Int).toNat*5))=_:=fun g=>Q4p l k hk g;obtain⟨m,rfl,hm⟩:=(Qud l[k] ⟨a,b,c,d,e⟩).op (by rfl) rfl;have hm2:∀s H,_:=fun s H=>hm 114 0 s H rfl;have hb:before l (k+1)=some l[k]:=by simp only[before,Zra hk]
    simp only[hb] at hS;generalize hlk:l[k]=q at*;obtain⟨a',b',c',d',e'⟩:=q;simp only[Zq.cells,J3] at ld2 hm2;simp only[wA,↓Qc,simprocAttr,c1,at1,ld1,hm1,hq,c0,Xr,ta,wH,wB]
    repeat' ((first|refine W.guardF ?_ ?_|refine W.guardT ?_ ?_|refine W.guardXF ?_ ?_|refine W.guardXT ?_ ?_|refine W.ite ?_ ?_|refine W.opsK1 (by kernel_rfl) ?_)<;>intro h<;>simp only[wA,↓Qc,simprocAttr,h,hm1,hq,c0,Xr,wk,at2,ld2,hm2,ta,wH,wB])
    all_goals first
    |(refine W.done ?_
      simp only[wA,↓Qc,simprocAttr];refine W.done (Qk.ret rfl rfl ?_);rw[hS];simp only[*,Jy,if_true,if_false,okE]
      try rfl)
    |(try simp only[wA,↓Qc,simprocAttr,w1,(rfl:(IntKind.i64).wrap 1=1)]
      refine W.done ⟨_,⟨_,rfl,by omega,rfl,.inr ⟨_,rfl⟩,?_⟩,by omega⟩;rw[hS,hnx];simp only[*,Jy,if_true,if_false]
      try rfl)
 . have c1:decide ((i:Int)<l.length)=false:=Zun (by omega);simp only[wA,↓Qc,simprocAttr,c1];refine W.done ?_;simp only[wA,↓Qc,simprocAttr];refine W.done (Qk.ret rfl rfl ?_);rw[<-hR,Ztt (by omega)];cases hb:before l i<;>rfl
set_option maxHeartbeats 8000000 in
theorem Qzl(v:V)(ls:List Zt)(hv:Qij v ls):Fz Tryz.prog Qg 69 [v] fun x=>x= .bool (Xw ls):=by
 refine Qw Tryz.func69 rfl ?_;have hv0:=hv;obtain⟨cs,hc,hv⟩:=hv;have len:=hv.len Tryz.underlying33;have sv:=Ze hv;simp only[wA,↓Qc,simprocAttr,Tryz.ntmps69,ta,wH,wB,len];refine W.ite ?_ ?_<;>intro h<;>simp only[wA,↓Qc,simprocAttr,ta,wH,wB,len]
 . exact W.done (Qk.ret rfl rfl (by simp only[Xw,h];rfl))
 have hl:ls.length<=16:=by have:=of_decide_eq_false h;omega
 have hD:Xw ls=if Qa8 none ls then Qdk ls ls else false:=by simp only[Xw,h];rfl
 rw[hD];refine W.ul ?_;refine W.loop (fun(i:Nat) t H=>∃F:AM.Frame,Yf [0,10,11,12] t 0=Q0o v v (.int .i64 ls.length) (.int .i64 i)/\i<=ls.length/\H=[F]/\(F=[]\/∃x,F=[(4,.cells x)])/\Qa8 (before ls i) (ls.drop i)=Qa8 none ls) (fun i=>ls.length-i) ?_ 0 ⟨_,rfl,by omega,rfl,.inl rfl,rfl⟩ rfl;rintro i t H ⟨F,ht,hi,rfl,hF,hR⟩;have hd:([F]:Heap).modify 0 (Jb fun s=>[4].contains s)=[[]]:=by rcases hF with rfl|⟨x,rfl⟩<;>rfl
 have vr:v.refs (fun f s=>f==0&&[4].contains s)=false:=hv.noRefs _;refine⟨_,_,Jh (kt:=[0,10,11,12]) (ds:=[4]) rfl ?_ ?_,?_⟩
 . rw[ht];simp only[Q0o,Qi,V.refs,vr];simp
 . rw[hd];simp only[Qz,Zb,O.refs,Qi,V.refs];simp
 rw[ht,hd];simp only[Q0o];by_cases h:i<ls.length
 . have c1:decide ((i:Int)<ls.length)=true:=Zum (by omega);have at1:=hv.at (k:= .i64) Tryz.underlying33 Qnt (by decide) (i:=(i:Int)) (by omega) (by omega);obtain⟨dv,hdv,ld⟩:=hc.ld h;have sc:=Ze hdv;have ld1:∀g,ldV Tryz.prog 57 g (.iptr cs ((i:Int).toNat*13))=_:=ld;have w1:(IntKind.i64).wrap ((i:Int)+1)=((i+1:Nat):Int):=by rw[wrap_i64]<;>omega
   have hS:Qa8 (before ls i) (ls.drop i)=if decide (ls[i].id<1)||(decide (ls[i].id>255)||((match before ls i with|some q=>decide (ls[i].id<=q.id)|none=>false)||((ls[i].kind !=1)&&(ls[i].kind !=2)))) then false else Qa8 (before ls (i+1)) (ls.drop (i+1)):=by
    rw[Zue h];have e:before ls (i+1)=some ls[i]:=by simp only[before,Zra h]
    rw[e];rfl
   rw[hR] at hS;generalize hp:ls[i]=p at*;obtain⟨id,kind,owner,prev,txg,guid,key,root,dead⟩:=p;obtain⟨ra,rb,rc,rd,re⟩:=root;simp only[Zu] at ld1;simp only at hS;generalize hnx:Qa8 (before ls (i+1)) (ls.drop (i+1))=nx at hS;cases i with
   |zero=>
    have c0:decide (((0:Nat):Int)>0)=false:=rfl;have hb0:before ls 0=none:=rfl;simp only[hb0] at hS;simp only[Qmi,Qe2,Qfd,Zr,Q9,Y9,nov,gd,rho,Qu,wr,Nat.reduceAdd,Nat.reduceSub,if_true,if_false,reduceIte,reduceCtorEq,Nat.reduceLT,Nat.reduceEqDiff,Nat.reduceMul,Nat.reduceLeDiff,Qgq,Int.reduceBEq,Int.reduceBNe,Int.reduceLT,Int.reduceLE,↓Qc,c1,at1,ld1,sc,c0,ta,wH,wB]
    repeat' ((first|refine W.guardF ?_ ?_|refine W.guardT ?_ ?_|refine W.guardXF ?_ ?_|refine W.guardXT ?_ ?_|refine W.ite ?_ ?_|refine W.opsK1 (by kernel_rfl) ?_)<;>intro h<;>simp only[wA,↓Qc,simprocAttr,h,c0,ta,wH,wB])
    all_goals first
    |(refine W.done ?_
      simp only[wA,↓Qc,simprocAttr];refine W.done (Qk.ret rfl rfl ?_);rw[hS];simp only[*,Jy,if_true,if_false,okE]
      try rfl)
    |(try simp only[wA,↓Qc,simprocAttr,w1,(rfl:(IntKind.i64).wrap 1=1)]
      refine W.done ⟨0+1,⟨_,rfl,by omega,rfl,.inr ⟨_,rfl⟩,?_⟩,by omega⟩;rw[hS,hnx];simp only[*,Jy,if_true,if_false]
      try rfl)
   |succ k=>
    have c0:decide (((k+1:Nat):Int)>0)=true:=Zum (by omega);have wk:(IntKind.i64).wrap (((k+1:Nat):Int)-1)=((k:Nat):Int):=by rw[wrap_i64]<;>omega
    have hk:k<ls.length:=by omega
    have at2:=hv.at (k:= .i64) Tryz.underlying33 Qnt (by decide) (i:=(k:Int)) (by omega) (by omega);have hb:before ls (k+1)=some ls[k]:=by simp only[before,Zra hk]
    obtain⟨j1,_,_,_⟩:=hc.cells hk;have j1' :cs[(k:Int).toNat*13+0]?=_:=j1;simp only[hb] at hS;simp only[wA,↓Qc,simprocAttr,c1,at1,ld1,sc,c0,ta,wH,wB]
    repeat' ((first|refine W.guardF ?_ ?_|refine W.guardT ?_ ?_|refine W.guardXF ?_ ?_|refine W.guardXT ?_ ?_|refine W.ite ?_ ?_|refine W.opsK1 (by kernel_rfl) ?_)<;>intro h<;>simp only[wA,↓Qc,simprocAttr,h,c0,wk,at2,j1',ta,wH,wB])
    all_goals first
    |(refine W.done ?_
      simp only[wA,↓Qc,simprocAttr];refine W.done (Qk.ret rfl rfl ?_);rw[hS];simp only[*,Jy,if_true,if_false,okE]
      try rfl)
    |(try simp only[wA,↓Qc,simprocAttr,w1,(rfl:(IntKind.i64).wrap 1=1)]
      refine W.done ⟨_,⟨_,rfl,by omega,rfl,.inr ⟨_,rfl⟩,?_⟩,by omega⟩;rw[hS,hnx];simp only[*,Jy,if_true,if_false]
      try rfl)
 . have c1:decide ((i:Int)<ls.length)=false:=Zun (by omega);have hA:Qa8 none ls=true:=by
    rw[<-hR,Ztt (by omega)];cases hb:before ls i<;>rfl
   rw[hA,if_pos rfl];simp only[wA,↓Qc,simprocAttr,c1];refine W.done ?_;simp only[wA,↓Qc,simprocAttr,len,ta,wH,wB];refine W.ul ?_;refine W.loop (fun(i:Nat) t H=>∃F:AM.Frame,Yf [0,51,52,53] t 0=Qva v v (.int .i64 ls.length) (.int .i64 i)/\i<=ls.length/\H=[F]/\((F=[]\/∃x,F=[(4,.cells x)])\/∃x,F=[(6,.cells x)])/\Qdk ls (ls.drop i)=Qdk ls ls) (fun i=>ls.length-i) ?_ 0 ⟨_,rfl,by omega,rfl,.inl (.inl rfl),rfl⟩ rfl;rintro i t H ⟨F,ht,hi,rfl,hF,hR⟩;have hd:([F]:Heap).modify 0 (Jb fun s=>[4,6].contains s)=[[]]:=by rcases hF with(rfl|⟨x,rfl⟩)|⟨x,rfl⟩<;>rfl
   have vr:v.refs (fun f s=>f==0&&[4,6].contains s)=false:=hv.noRefs _;refine⟨_,_,Jh (kt:=[0,51,52,53]) (ds:=[4,6]) rfl ?_ ?_,?_⟩
   . rw[ht];simp only[Qva,Qi,V.refs,vr];simp
   . rw[hd];simp only[Qz,Zb,O.refs,Qi,V.refs];simp
   rw[ht,hd];simp only[Qva];by_cases h:i<ls.length
   . have c1:decide ((i:Int)<ls.length)=true:=Zum (by omega);have at1:=hv.at (k:= .i64) Tryz.underlying33 Qnt (by decide) (i:=(i:Int)) (by omega) (by omega);obtain⟨dv,hdv,ld⟩:=hc.ld h;have sc:=Ze hdv;have ld1:∀g,ldV Tryz.prog 57 g (.iptr cs ((i:Int).toNat*13))=_:=ld;have w1:(IntKind.i64).wrap ((i:Int)+1)=((i+1:Nat):Int):=by rw[wrap_i64]<;>omega
     have hS:Qdk ls (ls.drop i)=if Qfv ls ls[i] then false else Qdk ls (ls.drop (i+1)):=by rw[Zue h];rfl
     rw[hR] at hS;obtain⟨m,rfl,hm⟩:=(Km ls[i].root).op (by rfl) rfl;have hm1:∀s H,_:=fun s H=>hm 69 0 s H rfl;obtain⟨m,rfl,hm⟩:=(Qvj dv ls[i].dead hdv).op (by rfl) (Qa (hdv.frz _) rfl);have hm2:∀s H,_:=fun s H=>hm 69 0 s H rfl;obtain⟨m,rfl,hm⟩:=(kin_fz v ls hv0 (by omega) ls[i] dv hdv).op (by rfl) (Qa (hv.frz _) (Qa (Qbx hdv) rfl));have hm3:∀s H,_:=fun s H=>hm 69 0 s H rfl;generalize hp:ls[i]=p at*;obtain⟨id,kind,owner,prev,txg,guid,key,root,dead⟩:=p;obtain⟨ra,rb,rc,rd,re⟩:=root;simp only[Zu,Zq.cells] at ld1 hm1 hm2 hm3;simp only[Qfv] at hS;generalize hnx:Qdk ls (ls.drop (i+1))=nx at hS;simp only[wA,↓Qc,simprocAttr,c1,at1,ld1,sc,hm1,hm2,hm3,Xr,ta,wH,wB]
     repeat' ((first|refine W.guardF ?_ ?_|refine W.guardT ?_ ?_|refine W.guardXF ?_ ?_|refine W.guardXT ?_ ?_|refine W.ite ?_ ?_|refine W.opsK1 (by kernel_rfl) ?_)<;>intro h<;>simp only[wA,↓Qc,simprocAttr,h,hm1,hm2,hm3,Xr,sc,ta,wH,wB])
     all_goals first
      |(refine W.done ?_
        simp only[wA,↓Qc,simprocAttr];refine W.done (Qk.ret rfl rfl ?_);rw[hS];simp only[*,Jy,if_true,if_false,okE]
        try rfl)
      |(try simp only[wA,↓Qc,simprocAttr,w1,(rfl:(IntKind.i64).wrap 1=1)]
        refine W.done ⟨_,⟨_,rfl,by omega,rfl,.inr ⟨_,rfl⟩,?_⟩,by omega⟩;rw[hS,hnx];simp only[*,Jy,if_true,if_false]
        try rfl)
   . have c1:decide ((i:Int)<ls.length)=false:=Zun (by omega);have hB:Qdk ls ls=true:=by
      rw[<-hR,Ztt (by omega)];rfl
     rw[hB];simp only[wA,↓Qc,simprocAttr,c1];refine W.done ?_;simp only[wA,↓Qc,simprocAttr,len,ta,wH,wB];exact W.done (Qk.ret rfl rfl rfl)
set_option maxHeartbeats 8000000 in
theorem Quq(c:Zf)(dv:V)(hd:Qku dv c.n):Fz Tryz.prog Qg 72 [.agg (Za c dv)] fun x=>x= .bool (J8 c):=by
 refine Qw Tryz.func72 rfl ?_;obtain⟨cells,hd⟩:=hd;have sc:=Ze hd;have len:=Q0.len Tryz.underlying26 hd;have hq:=fun x y=>Qjv (x:=x) (y:=y) c.laid J3;obtain⟨m,rfl,hm⟩:=(Km c.laid).op (by rfl) rfl;have hm1:∀s H,_:=fun s H=>hm 72 0 s H rfl;obtain⟨set,obj,index,kind,links,size,n,laid⟩:=c;simp only[J8];simp only at hq hm1;generalize Yp laid=po at*;generalize decide (laid=J3)=pz at*;obtain⟨a,b,c,d,e⟩:=laid;simp only[Zq.cells,J3] at hm1 hq;simp only[wA,↓Qc,simprocAttr,Tryz.ntmps72,ta,wH,wB,Za,sc,len,hq,hm1,Xr,Za2]
 repeat' ((first|refine W.guardF ?_ ?_|refine W.guardT ?_ ?_|refine W.guardXF ?_ ?_|refine W.guardXT ?_ ?_|refine W.ite ?_ ?_|refine W.opsK1 (by kernel_rfl) ?_)<;>intro h<;>simp only[wA,↓Qc,simprocAttr,h,hm1,hq,sc,len,Xr,Za2,ta,wH,wB])
 all_goals refine W.done (Qk.ret rfl rfl ?_)
 all_goals first|rfl|(simp only[*,Jy,if_true,if_false];try rfl)
theorem Q83(a b:Zf)(av bv:V)(ha:Qku av a.n)(hb:Qku bv b.n):Fz Tryz.prog Qg 73 [.agg (Za a av),.agg (Za b bv)] fun x=>x= .int .i64 (Qep a b):=by
 refine Qw Tryz.func73 rfl ?_;obtain⟨ca,ha⟩:=ha;obtain⟨cb,hb⟩:=hb;have sa:=Ze ha;have sb:=Ze hb;obtain⟨m,rfl,hm⟩:=(Bm a.set b.set).op (by rfl) rfl;have hm1:∀s H,_:=fun s H=>hm 73 0 s H rfl;obtain⟨m,rfl,hm⟩:=(Bm a.obj b.obj).op (by rfl) rfl;have hm2:∀s H,_:=fun s H=>hm 73 0 s H rfl;obtain⟨m,rfl,hm⟩:=(Bm a.index b.index).op (by rfl) rfl;have hm3:∀s H,_:=fun s H=>hm 73 0 s H rfl;obtain⟨m,rfl,hm⟩:=(or_fz (.iS [.int .i64 (Qal a.set b.set),.int .i64 (Qal a.obj b.obj),.int .i64 (Qal a.index b.index)] 3 true) [Qal a.set b.set,Qal a.obj b.obj,Qal a.index b.index] (Ke.mk _ _) (by simp)).op (by rfl) rfl;have hm4:∀s H,_:=fun s H=>hm 73 0 s H rfl;have mt:Qg.mt 73 20=false:=by rfl
 simp only[wA,↓Qc,simprocAttr,Tryz.ntmps73,ta,wH,wB,Za,sa,sb,hm1,hm2,hm3,hm4,Tryz.underlying32,sz3,zc3,Zrs,Zs9,Zsi,mt]
 repeat' ((first|refine W.guardF ?_ ?_|refine W.guardT ?_ ?_|refine W.guardXF ?_ ?_|refine W.guardXT ?_ ?_|refine W.ite ?_ ?_|refine W.opsK1 (by kernel_rfl) ?_)<;>intro h<;>simp only[wA,↓Qc,simprocAttr,h,mt])
 all_goals refine W.done (Qk.ret rfl rfl ?_)
 all_goals first|rfl|(simp only[Qep, *,Jy,if_true,if_false];try rfl)
theorem byt_u8:byt Tryz.prog 5=some 1:=by kernel_rfl
theorem tok_sl(mt:Nat->Bool)(dst:Option Nat)(x:V):Qhh Tryz.prog mt dst 26 9 x=none:=by cases dst<;>simp only[Qhh,Tryz.underlying26,Tryz.underlying9]
theorem Qzf(x y:V)(k l:List UInt8)(hx:Qf x k)(hy:Qf y l):CW Tryz.prog Qg 35 [x,y] [] fun r _=>r= .ret (.bool (decide (k=l))):=by
 refine Kb Tryz.func35 rfl ?_;have c1:=fun g=>Qfk (P:=Tryz.prog) (g:=g) (s:=26) (d:=9) Tryz.underlying26 Tryz.underlying5 Tryz.underlying9 (Q0.sc (g:=g) hx);have c2:=fun g=>Qfk (P:=Tryz.prog) (g:=g) (s:=26) (d:=9) Tryz.underlying26 Tryz.underlying5 Tryz.underlying9 (Q0.sc (g:=g) hy);simp only[wA,↓Qc,simprocAttr,Tryz.ntmps35,ta,wH,wB,c1,c2,tok_sl];refine W.done (End.ret (v:= .bool (decide (k=l))) ?_ rfl);have e:(k==l)=decide (k=l):=by rw[Bool.eq_iff_iff];simp
 rw[<-e];rfl
theorem Q9c(x:V)(k:List UInt8)(hk:Qf x k)(hl:k.length<=9223372036854775807)(many:Int)(hm:many=24\/many=16):
 CW Tryz.prog Qg 116 [x,.ptr 0 3 0] [[(3,.cells [.int .i64 many])],[],[]] fun r H=>r= .ret (.bool (Bj many k))/\H=[[(3,.cells [.int .i64 many])],[],[]]:=by
 refine Kb Tryz.func116 rfl ?_;have len:=Q0.len Tryz.underlying26 hk;rcases hm with rfl|rfl
 . obtain⟨r,H',e1,e2⟩:=Qzf x (.iS (Qb (List.replicate 24 0)) 24 true) k (List.replicate 24 0) hk (Qf.mk _ _);subst e2;have hc:∀d,callOp Qg (Qp Tryz.prog Qg) 116 3 d 35 [x,.mS 3 18 0 24 (some 24) 1] [[(3,.cells [.int .i64 24])],[],[],[(18,.cells (zerosN [.int .u8 0] 24))]]=some (.ret (.bool (decide (k=List.replicate 24 0))),_):=
    fun d=>Qy8 rfl rfl rfl rfl (Qa (Q0.frz hk _) (Qa rfl rfl)) e1 rfl
   have un:=Tryz.underlying26;have rm:Jl 24 1=true:=by rfl
   simp only[wA,↓Qc,simprocAttr,Tryz.ntmps116,ta,wH,wB,Zrs,Zs9,len];have t24:Int.toNat 24=24:=rfl;have t24' :(24:Int)<=24:=Int.le_refl _
   repeat' ((first|refine W.guardF ?_ ?_|refine W.guardT ?_ ?_|refine W.guardXF ?_ ?_|refine W.guardXT ?_ ?_|refine W.ite ?_ ?_|refine W.opsK1 (by kernel_rfl) ?_)<;>intro h<;>simp only[wA,↓Qc,simprocAttr,h,ta,wH,len,un,sz5,zc5,byt_u8,rm,t24,hc,Int.le_refl,true_and,and_true,Zrs,Zs9,Nat.reduceLeDiff,Int.reduceLE])
   all_goals refine W.done (End.ret (v:= .bool (Bj 24 k)) ?_ ⟨rfl,rfl⟩)
   all_goals simp only[Bj, *,Zsy,Zt8,Bool.true_or,Bool.or_true,Zs2,Zub]
   all_goals rfl
 . simp only[wA,↓Qc,simprocAttr,Tryz.ntmps116,ta,wH,wB,Zrs,Zs9,len];have e:((16:Int)==24)=false:=rfl
   repeat' ((first|refine W.guardF ?_ ?_|refine W.guardT ?_ ?_|refine W.guardXF ?_ ?_|refine W.guardXT ?_ ?_|refine W.ite ?_ ?_|refine W.opsK1 (by kernel_rfl) ?_)<;>intro h<;>simp only[wA,↓Qc,simprocAttr,h,ta,wH,len,e])
   all_goals refine W.done (End.ret (v:= .bool (Bj 16 k)) ?_ ⟨rfl,rfl⟩)
   all_goals simp only[Bj, *,Zsy,Zt8,Bool.true_or,Bool.or_true,Zs2,Zub]
   all_goals rfl
theorem Q2z(v:V)(l:List (List UInt8))(cs:List V)(hc:Qkr cs l)(hv:Q0 1 v cs l.length)(hl:l.length<=9223372036854775807)(hk:∀k∈l,k.length<=9223372036854775807)(many:Int)(hm:many=24\/many=16):
 CW Tryz.prog Qg 43 [v,.func (.func 116) [] [.ptr 0 3 0]] [[(3,.cells [.int .i64 many])],[]] fun r H=>r= .ret (.int .i64 (Zj (Bj many) 0 l))/\H=[[(3,.cells [.int .i64 many])],[]]:=by
 refine Kb Tryz.func43 rfl ?_;have len:=hv.len Tryz.underlying22;simp only[wA,↓Qc,simprocAttr,Tryz.ntmps43,ta,wH,wB,Zrs,Zs9,len];refine W.ul ?_;refine W.loopS (kt:=[0,1,7,8]) rfl (fun i:Nat=>Zau v (.func (.func 116) [] [.ptr 0 3 0]) (.int .i64 l.length) (.int .i64 i)) (fun _=>[[(3,.cells [.int .i64 many])],[],[]]) (fun i=>i<=l.length/\Zj (Bj many) i (l.drop i)=Zj (Bj many) 0 l) (fun i=>l.length-i) ?_ 0 ⟨by omega,rfl⟩ rfl rfl;rintro i ⟨hi,hR⟩;simp only[Zau];by_cases h:i<l.length
 . have c1:decide ((i:Int)<l.length)=true:=Zum (by omega);have at1:=hv.at (k:= .i64) Tryz.underlying22 Qew (by decide) (i:=(i:Int)) (by omega) (by omega);obtain⟨x,g0,hx⟩:=hc.at_ h;have g1:cs[(i:Int).toNat*1]?=some x:=by simpa using g0
   have g1' :cs[(i:Int).toNat]?=some x:=by simpa using g0
   have w1:(IntKind.i64).wrap ((i:Int)+1)=((i+1:Nat):Int):=by rw[wrap_i64]<;>omega
   obtain⟨r,H',e1,e2,rfl⟩:=Q9c x l[i] hx (hk _ (Ztp h)) many hm;subst e2;have hcall:∀d,callOp Qg (Qp Tryz.prog Qg) 43 2 d 116 [x,.ptr 0 3 0] [[(3,.cells [.int .i64 many])],[],[]]=_:=fun d=>K0 rfl rfl rfl e1;have hS:Zj (Bj many) i (l.drop i)=if Bj many l[i] then(i:Int) else Zj (Bj many) (i+1) (l.drop (i+1)):=by rw[Zue h];rfl
   rw[hR] at hS;simp only[wA,↓Qc,simprocAttr,c1,at1,rd26,g1,g1',hcall,ta,wH,wB,Zs0,Zti];refine W.ite ?_ ?_<;>intro h2<;>simp only[wA,↓Qc,simprocAttr,ta,wH,w1]
   . refine W.done ?_;simp only[wA,↓Qc,simprocAttr];refine W.done (End.ret (v:= .int .i64 (Zj (Bj many) 0 l)) ?_ ⟨rfl,rfl⟩);rw[hS,h2];rfl
   . refine W.done ⟨i+1,rfl,rfl,⟨by omega,?_⟩,by omega⟩;rw[hS,h2];rfl
 . have c1:decide ((i:Int)<l.length)=false:=Zun (by omega);simp only[wA,↓Qc,simprocAttr,c1];refine W.done ?_;simp only[wA,↓Qc,simprocAttr];refine W.done (End.ret (v:= .int .i64 (Zj (Bj many) 0 l)) ?_ ⟨rfl,rfl⟩);rw[<-hR,Ztt (by omega)];rfl
theorem Qy6(v:V)(l:List (List UInt8))(cs:List V)(hc:Qkr cs l)(hv:Q0 1 v cs l.length)(hl:l.length<=9223372036854775807)(hk:∀k∈l,k.length<=9223372036854775807)(many:Int)(hm:many=24\/many=16):
 CW Tryz.prog Qg 117 [v,.func (.func 116) [] [.ptr 0 3 0]] [[(3,.cells [.int .i64 many])]] fun r H=>r= .ret (.bool (l.any (Bj many)))/\H=[[(3,.cells [.int .i64 many])]]:=by
 refine Kb Tryz.func117 rfl ?_;obtain⟨r,H',e1,e2,rfl⟩:=Q2z v l cs hc hv hl hk many hm;subst e2;have hcall:∀d,callOp Qg (Qp Tryz.prog Qg) 117 1 d 43 [v,.func (.func 116) [] [.ptr 0 3 0]] [[(3,.cells [.int .i64 many])],[]]=_:=fun d=>K0 rfl rfl rfl e1;simp only[wA,↓Qc,simprocAttr,Tryz.ntmps117,ta,wH,wB,Zrs,Zs9,Zs0,Zti,hcall,Qgs];exact W.done (End.ret (v:= .bool (l.any (Bj many))) rfl ⟨rfl,rfl⟩)
theorem Qn9(v:V)(l:List (List UInt8))(hv:Kt v l)(hl:l.length<=9223372036854775807)(hk:∀k∈l,k.length<=9223372036854775807)(many:Int)(hm:many=24\/many=16):
 Fz Tryz.prog Qg 70 [v,.int .i64 many] fun x=>x= .bool (Qcl l many):=by
 refine Qw Tryz.func70 rfl ?_;obtain⟨cs,hc,hv⟩:=hv;have len:=hv.len Tryz.underlying22;obtain⟨r,H',e1,e2,rfl⟩:=Qy6 v l cs hc hv hl hk many hm;subst e2;have hcall:∀d,callOp Qg (Qp Tryz.prog Qg) 70 0 d 117 [v,.func (.func 116) [] [.ptr 0 3 0]] [[(3,.cells [.int .i64 many])]]=_:=fun d=>K0 rfl rfl rfl e1;simp only[wA,↓Qc,simprocAttr,Tryz.ntmps70,ta,wH,wB,len,hcall]
 repeat' ((first|refine W.guardF ?_ ?_|refine W.guardT ?_ ?_|refine W.guardXF ?_ ?_|refine W.guardXT ?_ ?_|refine W.ite ?_ ?_|refine W.opsK1 (by kernel_rfl) ?_)<;>intro h<;>simp only[wA,↓Qc,simprocAttr,h,ta,wH,len,hcall])
 all_goals refine W.done (Qk.ret rfl rfl ?_)
 all_goals first|rfl|(simp only[Qcl, *,Jy,if_true,if_false];try rfl)
open Go.AM Go.AM.BM
def Kz(m:Int)(l:List UInt8):Int:=l.foldl (fun m b=>if(b.toNat:Int)>m then b.toNat else m) m
theorem Q9h(v:V)(b:UInt8)(l:List UInt8)(hv:Qf v (b::l))(hl:l.length+1<=281474976710656):
 CW Tryz.prog Qg 168 [v] [] fun x _=>x= .ret (.int .u8 (Kz b.toNat l)):=by
 refine Kb Tryz.func168 rfl ?_;have len:=hv.len Tryz.underlying26;have at0:=hv.at (k:= .i64) Tryz.underlying26 sz5 (by decide) (i:=0) (by omega) (by simp);have get0:(Qb (b::l))[(0:Int).toNat*1]?=some (.int .u8 b.toNat):=rfl;have get0' :(Qb (b::l))[(0:Int).toNat]?=some (.int .u8 b.toNat):=rfl;have lt1:decide (((b::l).length:Int)<1)=false:=Zun (by simp;omega);have hL2:(b::l).length=l.length+1:=rfl;generalize hL:b::l=L at*;simp only[Qmi,Qe2,Qfd,Zr,Q9,Y9,nov,gd,rho,Qu,wr,Nat.reduceAdd,Nat.reduceSub,if_true,if_false,reduceIte,reduceCtorEq,Nat.reduceLT,Nat.reduceEqDiff,Nat.reduceMul,Nat.reduceLeDiff,Qgq,Int.reduceBEq,Int.reduceBNe,Int.reduceLT,Int.reduceLE,↓Qc,Tryz.ntmps168,ta,wH,wB,len,at0,lt1,rd5,get0,get0'];refine W.ul ?_;refine W.loopS (kt:=[0,3,4]) rfl (fun a:Int×Nat=>Qul v (.int .u8 a.1) (.int .i64 a.2)) (fun _=>[[]]) (fun a=>a.2<=L.length/\Kz a.1 (L.drop a.2)=Kz b.toNat l) (fun a=>L.length-a.2) ?_ (b.toNat,1) ⟨by subst hL;simp,by subst hL;simp⟩ rfl rfl;rintro⟨m,i⟩ ⟨hi,hm⟩;simp only at hi hm;by_cases h:i<L.length
 . have c1:decide ((i:Int)<L.length)=true:=by simp;omega
   have at1:=hv.at (k:= .i64) Tryz.underlying26 sz5 (by decide) (i:=(i:Int)) (by omega) (by omega);have get1:(Qb L)[(i:Int).toNat*1]?=some (.int .u8 L[i].toNat):=by simp[Qea,h]
   have get1' :(Qb L)[(i:Int).toNat]?=some (.int .u8 L[i].toNat):=by simp[Qea,h]
   have w1:(IntKind.i64).wrap ((i:Int)+1)=((i+1:Nat):Int):=by rw[wrap_i64]<;>omega
   simp only[Qul];simp only[wA,↓Qc,simprocAttr,ta,wH,wB,len,c1,at1,rd5,get1,get1',w1];refine W.done ⟨(_,i+1),rfl,rfl,⟨by simp only;omega,?_⟩,by simp only;omega⟩;rw[<-hm,Zue h];rfl
 . have c1:decide ((i:Int)<L.length)=false:=by simp;omega
   simp only[Qul];simp only[wA,↓Qc,simprocAttr,len,c1];refine W.done ?_;have:m=Kz b.toNat l:=by rw[<-hm,Ztt (by omega)];rfl
   subst this;simp only[wA,↓Qc,simprocAttr];exact W.done (End.ret (v:= .int .u8 (Kz b.toNat l)) rfl rfl)
theorem byteB{v:V}(h:Qn1 v=true):∃b:UInt8,v= .int .u8 b.toNat:=by
 cases v with
 |int k a=>
  cases k<;>try (cases a<;>cases h)
  cases a with
  |ofNat n=>
   have:n<256:=by simp only[Qn1,Nat.blt] at h;have:=Ztq h;omega
   refine⟨UInt8.ofNat n,?_⟩;have e:(UInt8.ofNat n).toNat=n:=by simp;omega
   rw[e];rfl
  |negSucc n=>cases h
 |_=>cases h
theorem Qmq{x:V}{c:List V}(h:Qo9 x=some c):∃l:List UInt8,c=Qb l/\Qf x l/\l.length<=1048576:=by
 have key:∀c:List V,c.all Qn1=true->∃l:List UInt8,c=Qb l:=by
  intro c
  induction c with
  |nil=>intro _;exact⟨[],rfl⟩
  |cons v c ih=>
   intro h;simp only[List.all_cons,Zr1] at h;obtain⟨b,rfl⟩:=byteB h.1;obtain⟨l,rfl⟩:=ih h.2;exact⟨b::l,rfl⟩
 cases x with
 |nS=>cases h;exact⟨[],rfl,Q0.nil,by simp⟩
 |iS xs n f=>
  simp only[Qo9] at h;split at h
  case isFalse=>cases h
  rename_i hc;cases h;simp only[Zr1] at hc;obtain⟨h1,h2,h3⟩:=hc;obtain⟨l,rfl⟩:=key _ h3;have e1:=Zt7 h1;have e2:=Ztq h2;have e3:(Qb l).length=l.length:=by simp[Qb]
  rw[e3] at e1;subst e1;exact⟨l,rfl,Q0.mk (by rw[e3];omega),e2⟩
 |_=>cases h
theorem Ql7:∀(l:List UInt8) (m:Nat),Int.ofNat (maxV (Qb l) m)=Kz m l
 |[],m=>rfl
 |b::l,m=>by
  have e:maxV (Qb (b::l)) m=Bool.rec (motive:=fun _=>Nat) (maxV (Qb l) m) (maxV (Qb l) b.toNat) (Nat.ble (Nat.succ m) b.toNat):=rfl;have e2:Kz m (b::l)=Kz (if(b.toNat:Int)>m then b.toNat else m) l:=rfl;rw[e,e2];cases hb:Nat.ble (Nat.succ m) b.toNat with
  |true=>
   have:=Ztq hb;rw[if_pos (by omega)];exact Ql7 l _
  |false=>
   have:¬Nat.succ m<=b.toNat:=fun h=>by rw[Zt6 h] at hb;cases hb
   rw[if_neg (by omega)];exact Ql7 l _
theorem Ze9(ys:List V)(v:V)(h:kMax ys=some v):FzN Tryz.prog Qg 168 ys v:=by
 unfold kMax at h;split at h
 case h_2=>cases h
 rename_i x;split at h
 case h_2=>cases h
 rename_i v0 c hc;cases h;obtain⟨l,e,hb,hl⟩:=Qmq hc;cases l with
 |nil=>cases e
 |cons b l=>
  cases e;obtain⟨r,H,e1,rfl⟩:=Q9h x b l hb (by simp only[Zrs] at hl;omega);have e3:=Ql7 l b.toNat
  show FzN _ _ _ _ (.int .u8 (Int.ofNat (maxV (Qb l) b.toNat)));rw[e3];exact⟨_,_,e1,rfl⟩
end
section
set_option maxRecDepth 100000
open Go.AM
attribute [local irreducible] U W
theorem Zdu(C:AM.Call)(fn fr:Nat)(d:Option Nat)(H:Heap)(v:V)(l:List UInt8)(hv:Qf v l)(c:UInt8):
 callOp Qg C fn fr d 200 [v,.int .u8 c.toNat] H=some (.ret (.int .i64 (l.count c)),H):=by
 have e:Qg.prim 200=some Xa:=rfl;simp only[callOp,e,Xa,hv.bytesV,Zrb,wr,Lib.countByte];simp
theorem max_fz(v:V)(b:UInt8)(l:List UInt8)(hv:Qf v (b::l))(hl:l.length+1<=281474976710656):
 Fz Tryz.prog Qg 168 [v] fun r=>r= .int .u8 (Kz b.toNat l):=by
 obtain⟨r,H,e1,rfl⟩:=Q9h v b l hv hl;exact⟨_,_,_,e1,rfl,rfl⟩
theorem Zag(v w:V)(l:List UInt8)(c:UInt8)(hv:Qf v l)(hw:Qf w [c]):
 Fz Tryz.prog Qg 169 [v,w] fun r=>r= .int .i64 (l.count c):=by
 refine Qw Tryz.func169 rfl ?_;have len:=hw.len Tryz.underlying26;have at0:=hw.at (k:= .i64) Tryz.underlying26 sz5 (by decide) (i:=0) (by omega) (by simp);have get0:(Qb [c])[(0:Int).toNat*1]?=some (.int .u8 c.toNat):=rfl;have c1:((([c]:List UInt8).length:Int)==0)=false:=rfl;have c2:((([c]:List UInt8).length:Int)==1)=true:=rfl;have ct:∀d,callOp Qg (Qp Tryz.prog Qg) 169 0 d 200 [v,.int .u8 c.toNat] [[]]=some (.ret (.int .i64 (l.count c)),[[]]):=fun d=>Zdu _ _ _ _ _ v l hv c;generalize hn:([c]:List UInt8).length=n at*;simp only[Qmi,Qe2,Qfd,Zr,Q9,Y9,nov,gd,rho,Qu,wr,Nat.reduceAdd,Nat.reduceSub,if_true,if_false,reduceIte,reduceCtorEq,Nat.reduceLT,Nat.reduceEqDiff,Nat.reduceMul,Nat.reduceLeDiff,Qgq,Int.reduceBEq,Int.reduceBNe,Int.reduceLT,Int.reduceLE,↓Qc,ta,wH,Tryz.ntmps169,len,at0,rd5,get0,c1,c2,ct];exact W.done (Qk.ret rfl rfl rfl)
theorem Qqj(n:Int):∀(l:List UInt8) (m:Int),Kz m l<=n↔m<=n/\∀b∈l,(b.toNat:Int)<=n
 |[],m=>by simp[Kz]
 |b::l,m=>by
  have e:Kz m (b::l)=Kz (if(b.toNat:Int)>m then b.toNat else m) l:=rfl;rw[e,Qqj n l];split
  . constructor
    . rintro⟨h1,h2⟩;exact⟨by omega,by simpa using ⟨h1,h2⟩⟩
    . rintro⟨h1,h2⟩;simp at h2;exact⟨h2.1,h2.2⟩
  . constructor
    . rintro⟨h1,h2⟩;exact⟨h1,by simp;exact⟨by omega,h2⟩⟩
    . rintro⟨h1,h2⟩;simp at h2;exact⟨h1,h2.2⟩
theorem Qri(v:V)(l:List UInt8)(hv:Qf v l):
 Fz Tryz.prog Qg 113 [v] fun r=>r= .int .i64 (if Xx l then 0 else 8):=by
 refine Qw Tryz.func113 rfl ?_;have len:=hv.len Tryz.underlying26;simp only[wA,↓Qc,simprocAttr,ta,wH,Tryz.ntmps113,len];by_cases h1:l.length=256
 . have c1:((l.length:Int) !=256)=false:=by simp[h1]
   match l,h1 with
   |b::l',h1=>
   obtain⟨m,rfl,hm⟩:=(max_fz v b l' hv (by simp at h1;omega)).op (by rfl) (Qa (hv.frz _) rfl);have hm' :∀d,_:=fun d=>hm 113 0 d [[]] rfl;generalize hL:b::l' =L at*;obtain⟨w,hw,hw'⟩:=hv.cut Tryz.underlying26 sz5 none (some 12) (by simp) (by simp) (by simp;omega);simp only[Ztc,Zrb] at hw;have bs:Qf (.iS [.int .u8 1] 1 true) [1]:=Qf.mk [1] true;obtain⟨m,rfl,hc⟩:=(Zag _ _ _ 1 hw' bs).op (by rfl) (Qa (hw'.frz _) (Qa (bs.frz _) rfl));have hc' :∀d,_:=fun d=>hc 113 0 d [[]] rfl;have e1:L.take 12=(List.drop ((none:Option Int).getD 0).toNat L).take (((some 12:Option Int).getD L.length).toNat-((none:Option Int).getD 0).toNat):=rfl;rw[<-e1] at hc';have e2:Kz b.toNat l' <=2↔(L.all fun b=>b<=2)=true:=by rw[Qqj,<-hL];simp only[List.all_cons,Zr1,decide_eq_true_eq,Zr2,le2]
   have z1:zeroCells Tryz.prog 5=some [.int .u8 0]:=zc5;simp only[wA,↓Qc,simprocAttr,ta,wH,c1,hm'];refine W.guard (fun g1=>?_) (fun g1=>?_)
   . have g2:Kz b.toNat l' <=2:=by have:=of_decide_eq_false g1;omega
     have g3:Xx L=((L.take 12).count 1==12):=by simp only[Xx,h1,beq_self_eq_true,Zsy,e2.1 g2]
     have mt0:∀s,s<2000000->Qg.mt 113 s=false:=fun s h=>Qch h rfl;simp only[wA,↓Qc,simprocAttr,ta,wH,g1,hw,Tryz.underlying26,sz5,z1,mt0,hc',wB];refine W.ite (fun g4=>?_) (fun g4=>?_)
     . simp only[wA,↓Qc,simprocAttr,ta,wH,];refine W.done (Qk.ret rfl rfl ?_);have g5:=bne_iff_ne.1 g4;have g6:(List.count 1 (List.take 12 L)==12)=false:=beq_false_of_ne fun e=>g5 (by rw[e];rfl);show V.int .i64 8=_;rw[g3,g6];rfl
     . simp only[wA,↓Qc,simprocAttr,ta,wH,];refine W.done (Qk.ret rfl rfl ?_);have g5:((List.count 1 (List.take 12 L):Nat):Int)=12:=by simpa using g4
       have g6:(List.count 1 (List.take 12 L)==12)=true:=beq_iff_eq.2 (by omega);show V.int .i64 0=_;rw[g3,g6];rfl
   . have g2:¬Kz b.toNat l' <=2:=by have:=of_decide_eq_true g1;omega
     have g3:Xx L=false:=by have:(L.all fun b=>b<=2)=false:=Zt3.2 fun h=>g2 (e2.2 h);simp only[Xx,this,Bool.and_false,Zt8]
     simp only[wA,↓Qc,simprocAttr,ta,wH,g1];refine W.done (Qk.ret rfl rfl ?_);rw[g3];rfl
 . have c1:((l.length:Int) !=256)=true:=by simp;omega
   have e:Xx l=false:=by simp[Xx,h1]
   simp only[wA,↓Qc,simprocAttr,ta,wH,c1];exact W.done (Qk.ret rfl rfl (by rw[e];rfl))
end
end Go.Proofs.YtidniacddkalaaaGreatDoor
