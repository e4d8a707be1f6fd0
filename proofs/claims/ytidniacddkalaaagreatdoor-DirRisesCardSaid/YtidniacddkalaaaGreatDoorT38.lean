/- This file holds in one the texts F15, E13, F16, F17, F18; each says at its head what it proves. -/
import Derived.Test.YtidniacddkalaaaGreatDoorT17
import Derived.Test.YtidniacddkalaaaGreatDoorT25
import Derived.Test.YtidniacddkalaaaGreatDoorT35
import Derived.Test.YtidniacddkalaaaGreatDoorT36
import Derived.Test.YtidniacddkalaaaGreatDoorT37
set_option linter.unusedSimpArgs false
set_option linter.unusedVariables false
section
set_option maxRecDepth 100000
namespace Go.Proofs.YtidniacddkalaaaGreatDoor
open Go.AM
attribute [local irreducible] U W
def zP16:List Zq:=List.replicate 16 J3
theorem Zcx:∀p∈zP16,Yp p=true:=fun p hp=>by rw[List.eq_of_mem_replicate hp];rfl
theorem Qw1{g:Get}{f s n:Nat}{c:Option Nat}{l:List Zq}(h:g f s=some (.cells (Zg l)))(hl:l.length=n)(m:Nat):frz g (m+2) (.mS f s 0 n c 5)=some (.iS (Zg l) n (c==some n)):=by
 have e:Qt (AM.frz g (m+1)) (Zg l)=some (Zg l):=Qde g m (Qaq l);have t:((Zg l).drop 0).take (n*5)=Zg l:=by rw[Ztu];exact Ztz (by rw[Br,hl];exact Zrf _)
 show(match g f s with
  |some (.cells xs)=>if 0+n*5<=xs.length then(Qt (AM.frz g (m+1)) ((xs.drop 0).take (n*5))).map fun cs=>V.iS cs n (c==some n) else none
  |_=>none)=_
 rw[h];simp only[t,e,Zrm,Br,hl,Zrf,if_true];rfl
theorem Ze5{bv wv sv:V}{bl wl sp}(h:Qco bv wv sv bl wl sp)(e c:Int)(p:Zq):Fz Tryz.prog Qg 96 [Qdb bv wv sv e c,.agg p.cells] (Q36 16):=by
 refine Qw Tryz.func96 rfl ?_;have fs:=Qas h e c (fun _ _=>none);obtain⟨m,rfl,hm⟩:=(Qhp h e c).op (by rfl) (Qa fs rfl);have hm1:∀s H,_:=fun s H=>hm 96 0 s H rfl;obtain⟨m,rfl,hm⟩:=(Km p).op (by rfl) rfl;have hm2:∀s H,_:=fun s H=>hm 96 0 s H rfl;obtain⟨m,⟨v,x,rfl,hr⟩,hm⟩:=(Qu9 h e c p).op (by rfl) (Qa fs (Qa rfl rfl));have hm3:∀s H,_:=fun s H=>hm 96 0 s H rfl;have e0:∀x y,Zp Tryz.prog .eql 31 x y (.agg p.cells) (.agg J3.cells)=_:=fun x y=>Qjv p J3;have bad:∀(x:Int) (T:List V) (H:Heap),x≠0->T.getD 4 .bad= .nS->T.getD 5 .bad= .int .i64 x->Qk Tryz.prog Tryz.f96 (Q36 16) .ret T H:=by intro x T H hx h1 h2;refine Qk.ret (v:= .tuple [.nS,.int .i64 x]) ?_ rfl ⟨_,x,rfl,.inr ⟨hx,rfl⟩⟩;show(match Ks Tryz.prog T H [.tmp 4,.tmp 5] with|some [v]=>some v|some vs=>some (V.tuple vs)|none=>none)=_;simp only[Ks,Jv,h1,h2]
 obtain⟨bcs,hbc,hbv⟩:=id h.blocks;obtain⟨wcs,hwc,hwv⟩:=id h.waits;have sb:=Ze hbv;have sw:=Ze hwv;have ss:=Ze h.space;generalize Qad (okE (B2 bl wl)) (Xx sp) e c=st at*;cases hp0:decide (p=J3)
 . simp only[hp0] at e0;cases st<;>cases hok:Yp p<;>simp only[hok,okE] at hm1 hm2
   case true.true=>
    rcases hr with⟨rfl,l,hl,hll⟩|⟨hx,rfl⟩
    . obtain⟨m,⟨pv,y,rfl,hr⟩,hm⟩:=(Q4b v l hl hll).op (by rfl) (Qa (hl.frz _) rfl);have hm4:∀s H,_:=fun s H=>hm 96 0 s H rfl;obtain⟨p1,p2,p3,p4,p5⟩:=p;simp only[Zq.cells,J3] at hm2 hm3 e0⊢;rcases hr with⟨rfl,ps,hps,hpl,hpo⟩|⟨hy,rfl⟩
      . have good:∀(T:List V) (H:Heap),T.getD 4 .bad=pv->T.getD 5 .bad= .int .i64 0->Qk Tryz.prog Tryz.f96 (Q36 16) .ret T H:=by
         intro T H h1 h2;refine Qk.ret (v:= .tuple [pv,.int .i64 0]) ?_ (Jc (Qa (Q0.frz hps 10) (Qa rfl rfl))) ⟨_,0,rfl,.inl ⟨rfl,ps,hps,hpl,hpo⟩⟩;show(match Ks Tryz.prog T H [.tmp 4,.tmp 5] with|some [v]=>some v|some vs=>some (V.tuple vs)|none=>none)=_;simp only[Ks,Jv,h1,h2]
        simp only[wA,↓Qc,simprocAttr,Tryz.ntmps96,ta,wH,wB,sb,sw,ss,hm1,hm2,hm3,hm4,e0];exact W.done (good _ _ rfl rfl)
      . have c1:(y !=0)=true:=by simpa using hy
        simp only[wA,↓Qc,simprocAttr,Tryz.ntmps96,ta,wH,wB,sb,sw,ss,hm1,hm2,hm3,hm4,e0,c1];exact W.done (bad 8 _ _ (by decide) rfl rfl)
    . have c1:(x !=0)=true:=by simpa using hx
      obtain⟨p1,p2,p3,p4,p5⟩:=p;simp only[Zq.cells,J3] at hm2 hm3 e0⊢;simp only[wA,↓Qc,simprocAttr,Tryz.ntmps96,ta,wH,wB,sb,sw,ss,hm1,hm2,hm3,e0,c1];exact W.done (bad x _ _ hx rfl rfl)
   all_goals
    obtain⟨p1,p2,p3,p4,p5⟩:=p;simp only[Zq.cells] at hm2⊢;simp only[wA,↓Qc,simprocAttr,Tryz.ntmps96,ta,wH,wB,sb,sw,ss,hm1,hm2];exact W.done (bad 8 _ _ (by decide) rfl rfl)
 . have hpe:p=J3:=by simpa using hp0
   subst hpe;simp only[hp0] at e0;have hok:Yp J3=true:=rfl;cases st<;>simp only[hok,okE] at hm1 hm2
   . simp only[Zq.cells,J3] at hm2 e0⊢;simp only[wA,↓Qc,simprocAttr,Tryz.ntmps96,ta,wH,wB,sb,sw,ss,hm1,hm2];exact W.done (bad 8 _ _ (by decide) rfl rfl)
   . have r1:Jl 16 24=true:=rfl;simp only[Zq.cells,J3] at hm2 e0⊢;simp only[wA,↓Qc,simprocAttr,Tryz.ntmps96,ta,wH,wB,sb,sw,ss,hm1,hm2,e0,r1,Tryz.underlying55,byP];exact W.done (Qk.ret (v:= .tuple [.mS 0 20 0 16 (some 16) 5,.int .i64 0]) rfl (Jc (Qa (Qw1 (l:=zP16) rfl rfl 9) (Qa rfl rfl))) ⟨_,0,rfl,.inl ⟨rfl,zP16,by have:=Q0.mk (esz:=5) (full:=true) (Br zP16);exact this,rfl,Zcx⟩⟩)
theorem one_fz{bv wv sv:V}{bl wl sp}(h:Qco bv wv sv bl wl sp)(e c:Int)(p:Zq):Fz Tryz.prog Qg 97 [Qdb bv wv sv e c,.agg p.cells] Qtt:=by
 refine Qw Tryz.func97 rfl ?_;have fs:=Qas h e c (fun _ _=>none);obtain⟨m,⟨v,x,rfl,hr⟩,hm⟩:=(Qu9 h e c p).op (by rfl) (Qa fs (Qa rfl rfl));have hm1:∀s H,_:=fun s H=>hm 97 0 s H rfl;have bad:∀(x:Int) (T:List V) (H:Heap),x≠0->Xn Tryz.prog Tryz.f97 T H=some (.tuple [.agg (Qgi ⟨0,0,0,[]⟩ .nS),.int .i64 x])->Qk Tryz.prog Tryz.f97 Qtt .ret T H:=fun x T H hx h=>
  Qk.ret h rfl ⟨_,.nS,x,rfl,Q0.nil,.inr ⟨hx,rfl⟩⟩
 obtain⟨bcs,hbc,hbv⟩:=id h.blocks;obtain⟨wcs,hwc,hwv⟩:=id h.waits;have sb:=Ze hbv;have sw:=Ze hwv;have ss:=Ze h.space;obtain⟨p1,p2,p3,p4,p5⟩:=p;simp only[Zq.cells] at hm1⊢;rcases hr with⟨rfl,l,hl,hll⟩|⟨hx,rfl⟩
 . obtain⟨m,⟨o,dv,y,rfl,hd,hr⟩,hm⟩:=(Q2t v l hl hll).op (by rfl) (Qa (hl.frz _) rfl);have hm2:∀s H,_:=fun s H=>hm 97 0 s H rfl;have sd:=Ze hd;obtain⟨k,ln,sz,ds⟩:=o;simp only[Qgi] at hm2;rcases hr with⟨rfl,hok⟩|⟨hy,ho⟩
   . have good:∀(T:List V) (H:Heap),Xn Tryz.prog Tryz.f97 T H=some (.tuple [.agg (Qgi ⟨k,ln,sz,ds⟩ dv),.int .i64 0])->Qk Tryz.prog Tryz.f97 Qtt .ret T H:=fun T H h=>
      Qk.ret h (Jc (Qa (Qay (Qa rfl (Qa rfl (Qa rfl (Qa (Q0.frz hd 9) rfl))))) (Qa rfl rfl))) ⟨_,dv,0,rfl,hd,.inl ⟨rfl,hok⟩⟩
     simp only[wA,↓Qc,simprocAttr,Tryz.ntmps97,ta,wH,wB,sb,sw,ss,hm1,hm2,sd];exact W.done (good _ _ rfl)
   . have c1:(y !=0)=true:=by simpa using hy
     simp only[wA,↓Qc,simprocAttr,Tryz.ntmps97,ta,wH,wB,sb,sw,ss,hm1,hm2,sd,c1];exact W.done (bad 8 _ _ (by decide) rfl)
 . have c1:(x !=0)=true:=by simpa using hx
   simp only[wA,↓Qc,simprocAttr,Tryz.ntmps97,ta,wH,wB,sb,sw,ss,hm1,c1];exact W.done (bad x _ _ hx rfl)
theorem Q3x{v:V}{l:List Zq}(hv:Jn v l){i:Int}(h0:0<=i)(h1:i<l.length):∃p∈l,Qm Tryz.prog 55 v (.int .i64 i)=some (.iptr (Zg l) (i.toNat*5))/\∀g,ldV Tryz.prog 31 g (.iptr (Zg l) (i.toNat*5))=some (.agg p.cells):=by
 have hi:i.toNat<l.length:=by omega
 refine⟨l[i.toNat],Ztp hi,Q0.at (P:=Tryz.prog) Tryz.underlying55 Qqa (by decide) hv h0 h1,fun g=>?_⟩;show Qn Tryz.prog 31 (Zg l) (i.toNat*5)=_;rw[rd31,if_pos (by rw[Br];omega),Qkq l _ hi]
theorem Q6y{bv wv sv:V}{bl wl sp}(h:Qco bv wv sv bl wl sp)(e c:Int)(p:Zq)(n:Int):Fz Tryz.prog Qg 55 [Qdb bv wv sv e c,.agg p.cells,.int .i64 n] Qtt:=by
 refine Qw Tryz.func55 rfl ?_;have fs:=Qas h e c (fun _ _=>none);obtain⟨m,rfl,hm⟩:=(Qhp h e c).op (by rfl) (Qa fs rfl);have hm1:∀s H,_:=fun s H=>hm 55 0 s H rfl;obtain⟨m,rfl,hm⟩:=(Km p).op (by rfl) rfl;have hm2:∀s H,_:=fun s H=>hm 55 0 s H rfl;obtain⟨m,⟨v,x,rfl,hr⟩,hm⟩:=(Ze5 h e c p).op (by rfl) (Qa fs (Qa rfl rfl));have hm3:∀s H,_:=fun s H=>hm 55 0 s H rfl;have bad:∀(x:Int) (T:List V) (H:Heap),x≠0->Xn Tryz.prog Tryz.f55 T H=some (.tuple [.agg (Qgi ⟨0,0,0,[]⟩ .nS),.int .i64 x])->Qk Tryz.prog Tryz.f55 Qtt .ret T H:=fun x T H hx h=>
  Qk.ret h rfl ⟨_,.nS,x,rfl,Q0.nil,.inr ⟨hx,rfl⟩⟩
 obtain⟨bcs,hbc,hbv⟩:=id h.blocks;obtain⟨wcs,hwc,hwv⟩:=id h.waits;have sb:=Ze hbv;have sw:=Ze hwv;have ss:=Ze h.space;generalize Qad (okE (B2 bl wl)) (Xx sp) e c=st at*;generalize Yp p=po at*;obtain⟨p1,p2,p3,p4,p5⟩:=p;simp only[Zq.cells] at hm2 hm3⊢;cases st<;>cases po<;>simp only[okE] at hm1 hm2
 case true.true=>
  by_cases h0:0<=n/\n<16
  . have c1:decide (n<0)=false:=Zun (by omega);have c2:decide (n>=16)=false:=Zun (by omega);rcases hr with⟨rfl,ps,hps,hpl,hpo⟩|⟨hx,rfl⟩
    . obtain⟨q,hq,at1,ld1⟩:=Q3x hps h0.1 (by omega:n<ps.length);obtain⟨m,⟨o,dv,y,rfl,hd,hr⟩,hm⟩:=(one_fz h e c q).op (by rfl) (Qa fs (Qa rfl rfl));have hm4:∀s H,_:=fun s H=>hm 55 0 s H rfl;have sd:=Ze hd;obtain⟨k,ln,sz,ds⟩:=o;obtain⟨q1,q2,q3,q4,q5⟩:=q;simp only[Qgi,Zq.cells] at hm4 ld1;have good:∀(T:List V) (H:Heap),Xn Tryz.prog Tryz.f55 T H=some (.tuple [.agg (Qgi ⟨k,ln,sz,ds⟩ dv),.int .i64 y])->Qk Tryz.prog Tryz.f55 Qtt .ret T H:=fun T H h=>
       Qk.ret h (Jc (Qa (Qay (Qa rfl (Qa rfl (Qa rfl (Qa (Q0.frz hd 9) rfl))))) (Qa rfl rfl))) ⟨_,dv,y,rfl,hd,hr⟩
      simp only[wA,↓Qc,simprocAttr,Tryz.ntmps55,ta,wH,wB,sb,sw,ss,hm1,hm2,hm3,c1,c2,at1,ld1,hm4,sd]
      trace_state
      refine W.opsT (by kernel_rfl) ?_;simp only[wA,↓Qc,simprocAttr,ta,wH,wB];exact W.done (good _ _ rfl)
    . have c3:(x !=0)=true:=by simpa using hx
      simp only[wA,↓Qc,simprocAttr,Tryz.ntmps55,ta,wH,wB,sb,sw,ss,hm1,hm2,hm3,c1,c2,c3];exact W.done (bad x _ _ hx rfl)
  . by_cases h1:n<0
    . have c1:decide (n<0)=true:=Zum h1;simp only[wA,↓Qc,simprocAttr,Tryz.ntmps55,ta,wH,wB,sb,sw,ss,hm1,hm2,c1];exact W.done (bad 2 _ _ (by decide) rfl)
    . have c1:decide (n<0)=false:=Zun h1;have c2:decide (n>=16)=true:=Zum (by omega);simp only[wA,↓Qc,simprocAttr,Tryz.ntmps55,ta,wH,wB,sb,sw,ss,hm1,hm2,c1,c2];exact W.done (bad 2 _ _ (by decide) rfl)
 all_goals
  simp only[wA,↓Qc,simprocAttr,Tryz.ntmps55,ta,wH,wB,sb,sw,ss,hm1,hm2];exact W.done (bad 8 _ _ (by decide) rfl)
end Go.Proofs.YtidniacddkalaaaGreatDoor
namespace Go.Proofs.YtidniacddkalaaaGreatDoor
open Go.AM
attribute [local irreducible] U W
theorem Qkz(c:Zf)(av:V)(ha:Qku av c.n)(s o i:Int):Fz Tryz.prog Qg 54 [.agg (Za c av),.agg [.int .i64 s,.int .i64 o,.int .i64 i]] fun x=>x= .int .i64 (Qfo c s o i):=by
 refine Qw Tryz.func54 rfl ?_;obtain⟨ca,ha⟩:=ha;have sa:=Ze ha;obtain⟨m,rfl,hm⟩:=(Bm c.set s).op (by rfl) rfl;have hm1:∀s H,_:=fun s H=>hm 54 0 s H rfl;obtain⟨m,rfl,hm⟩:=(Bm c.obj o).op (by rfl) rfl;have hm2:∀s H,_:=fun s H=>hm 54 0 s H rfl;obtain⟨m,rfl,hm⟩:=(Bm c.index i).op (by rfl) rfl;have hm3:∀s H,_:=fun s H=>hm 54 0 s H rfl;obtain⟨m,rfl,hm⟩:=(or_fz (.iS [.int .i64 (Qal c.set s),.int .i64 (Qal c.obj o),.int .i64 (Qal c.index i)] 3 true) [Qal c.set s,Qal c.obj o,Qal c.index i] (Ke.mk _ _) (by simp)).op (by rfl) rfl;have hm4:∀s H,_:=fun s H=>hm 54 0 s H rfl;have mt:Qg.mt 54 20=false:=by rfl
 simp only[wA,↓Qc,simprocAttr,Tryz.ntmps54,ta,wH,wB,Za,sa,hm1,hm2,hm3,hm4,Tryz.underlying32,sz3,zc3,Zrs,Zs9,Zsi,mt]
 repeat' ((first|refine W.guardF ?_ ?_|refine W.guardT ?_ ?_|refine W.guardXF ?_ ?_|refine W.guardXT ?_ ?_|refine W.ite ?_ ?_|refine W.opsK1 (by kernel_rfl) ?_)<;>intro h<;>simp only[wA,↓Qc,simprocAttr,h,mt])
 all_goals refine W.done (Qk.ret rfl rfl ?_)
 all_goals first|rfl|(simp only[Qfo, *,Jy,if_true,if_false];try rfl)
set_option maxHeartbeats 4000000 in
theorem Zez(v:V)(ls:List Zf)(hv:Qmr v ls)(hl:ls.length<=1000000)(s o x:Int):
 Fz Tryz.prog Qg 53 [v,.agg [.int .i64 s,.int .i64 o,.int .i64 x],.func (.func 54) [] []] fun y=>y= .tuple [.int .i64 (bs (cCh ls s o x) ls.length),.bool (Qb0 (cCh ls s o x) ls.length)]:=by
 refine Qw Tryz.func53 rfl ?_;obtain⟨cs,hc,hv⟩:=hv;have len:=hv.len Tryz.underlying34;have sc:=Ze hv;simp only[wA,↓Qc,simprocAttr,Tryz.ntmps53,ta,wH,wB,len];refine W.ul ?_;refine W.loopS (kt:=[0,2,4,8,9,10]) rfl (fun a:Nat×Nat=>Q94 v (.func (.func 54) [] []) (.ptr 0 4 0) (.int .i64 ls.length) (.int .i64 a.1) (.int .i64 a.2)) (fun _=>[[(4,.cells [.int .i64 s,.int .i64 o,.int .i64 x])]])
  (fun a=>a.1<=a.2/\a.2<=ls.length/\Qe3 (cCh ls s o x) (a.2-a.1) a.1 a.2=bs (cCh ls s o x) ls.length) (fun a=>a.2-a.1) ?_ (0,ls.length) ⟨by simp,by simp,rfl⟩ rfl rfl
 rintro⟨i,j⟩ ⟨hij,hj,hR⟩;simp only at hij hj hR;simp only[Q94];by_cases h:i<j
 . have c1:decide ((i:Int)<j)=true:=Zum (by omega);have wa:(IntKind.i64).wrap ((i:Int)+j)=((i+j:Nat):Int):=by rw[wrap_i64]<;>omega
   have hm:(i+j)/2<ls.length:=by omega
   have at1:=hv.at (k:= .i64) Tryz.underlying34 Qzq (by decide) (i:=(((i+j)/2:Nat):Int)) (by omega) (by omega);obtain⟨dv,hd,ld⟩:=hc.ld hm;have ld' :∀g,ldV Tryz.prog 59 g (.iptr cs ((((i+j)/2:Nat):Int).toNat*12))=_:=ld;have cv1:=fun g=>Qvc g (i+j) (by omega);have cv2:=fun g=>Qt4 g ((i+j)/2) (by omega);have sh:∀p q,Zp Tryz.prog .shr 160 p q (.int .u64 ((i+j:Nat):Int)) (.int .u64 1)=_:=fun p q=>Q0q (i+j);obtain⟨m,rfl,hm2⟩:=(Qkz ls[(i+j)/2] dv hd s o x).op (by rfl) (Qa (Qdq hd) rfl);have hm3:∀s H,_:=fun s H=>hm2 53 0 s H rfl;have eL:cCh ls s o x ((i+j)/2)=Qfo ls[(i+j)/2] s o x:=by simp only[cCh,Zra hm]
   have w1:(IntKind.i64).wrap ((((i+j)/2:Nat):Int)+1)=(((i+j)/2+1:Nat):Int):=by rw[wrap_i64]<;>omega
   rw[<-eL] at hm3;simp only[wA,↓Qc,simprocAttr,c1,wa,at1,ld',cv1,cv2,sh,hm3,ta,wH,wB];refine W.opsK (by kernel_rfl) ?_;simp only[wA,↓Qc,simprocAttr,ta,wH,wB];refine W.ite ?_ ?_<;>intro h2<;>simp only[wA,↓Qc,simprocAttr,ta,wH,wB,w1]
   . exact W.done ⟨((i+j)/2+1,j),rfl,rfl,⟨by simp only;omega,hj,by rw[<-hR,Q12 h h2]⟩,by simp only;omega⟩
   . exact W.done ⟨(i,(i+j)/2),rfl,rfl,⟨by simp only;omega,by simp only;omega,by rw[<-hR,Q2d h h2]⟩,by simp only;omega⟩
 . have c1:decide ((i:Int)<j)=false:=Zun (by omega);have e:i=j:=by omega
   subst e;have hi:i=bs (cCh ls s o x) ls.length:=by rw[<-hR,Zt5];rfl
   have key:Qb0 (cCh ls s o x) ls.length=(decide (i<ls.length)&&decide (cCh ls s o x i=0)):=by rw[Qb0,<-hi]
   rw[key,<-hi];simp only[wA,↓Qc,simprocAttr,c1];refine W.done ?_;by_cases h2:i<ls.length
   . have c2:decide ((i:Int)<ls.length)=true:=Zum (by omega);have at1:=hv.at (k:= .i64) Tryz.underlying34 Qzq (by decide) (i:=(i:Int)) (by omega) (by omega);obtain⟨dv,hd,ld⟩:=hc.ld h2;have ld' :∀g,ldV Tryz.prog 59 g (.iptr cs ((i:Int).toNat*12))=_:=ld;obtain⟨m,rfl,hm2⟩:=(Qkz ls[i] dv hd s o x).op (by rfl) (Qa (Qdq hd) rfl);have hm3:∀s H,_:=fun s H=>hm2 53 0 s H rfl;have eL:cCh ls s o x i=Qfo ls[i] s o x:=by simp only[cCh,Zra h2]
     rw[<-eL] at hm3;have e0:(cCh ls s o x i==0)=decide (cCh ls s o x i=0):=rfl;simp only[wA,↓Qc,simprocAttr,c2,at1,ld',hm3,e0,ta,wH,wB];refine W.opsK (by kernel_rfl) ?_;simp only[wA,↓Qc,simprocAttr,ta,wH,wB];rw[Zum h2,Zsy];exact W.done (Qk.ret rfl rfl rfl)
   . have c2:decide ((i:Int)<ls.length)=false:=Zun (by omega);simp only[wA,↓Qc,simprocAttr,c2,ta,wH,wB];refine W.opsK (by kernel_rfl) ?_;simp only[wA,↓Qc,simprocAttr,ta,wH,wB];rw[Zun h2,Zt8];exact W.done (Qk.ret rfl rfl rfl)
end Go.Proofs.YtidniacddkalaaaGreatDoor
namespace Go.Proofs.YtidniacddkalaaaGreatDoor
open Go.AM
attribute [local irreducible] U W
def Qeh:Zf:=⟨0,0,0,0,0,0,0,J3⟩
def Q4v(x:B6)(s o i:Int)(r:V):Prop:=∃(c:Zf) (dv:V) (b:Bool),r= .tuple [.agg (Za c dv),.bool b]/\(∃k:List UInt8,Qf dv k/\c.n=k.length)/\((b=true/\c∈x.p.changes/\c.set=s/\c.obj=o/\c.index=i)\/(b=false/\c=Qeh))
theorem Q30{g:Get}{n:Nat}{c:Zf}{dv:V}{k:List UInt8}(h:Qf dv k):Qt (AM.frz g (n+1)) (Za c dv)=some (Za c dv):=by
 have:=h.frz (g:=g) n;simp only[Za]
 repeat' (first|refine Qa rfl ?_|refine Qa this ?_|rfl)
theorem Q8i{g:Get}{n:Nat}{l:Zt}{dv:V}(h:Jn dv l.dead):Qt (AM.frz g (n+1)) (Zu l dv)=some (Zu l dv):=by
 have:=Q0.frz (g:=g) h n;simp only[Zu]
 repeat' (first|refine Qa rfl ?_|refine Qa this ?_|rfl)
section
variable {bv wv sv mv lv kv ov cv : V} {x : B6}
theorem Qs7(h:Jx bv wv sv mv lv kv ov cv x)(hok:Qia x=true)(s o i:Int):
 Fz Tryz.prog Qg 30 [.agg (Zd bv wv sv mv lv kv ov cv x.p),.agg [.int .i64 s,.int .i64 o,.int .i64 i]] (Q4v x s o i):=by
 refine Qw Tryz.func30 rfl ?_;have hlen:=Qvv hok;obtain⟨m,rfl,hm⟩:=(Zez cv x.p.changes (K9.toI h.changes) (by omega) s o i).op (by rfl) (by
  obtain⟨cs,hc,hv⟩:=h.changes
  exact Qa (hv.frz _) (Qa rfl (Qa rfl rfl)))
 have hm1:∀s H,_:=fun s H=>hm 30 0 s H rfl;obtain⟨s1,s2,s3,s4,s5,s6,s7,s8⟩:=Bf h;obtain⟨cs,hc,hv⟩:=h.changes;have good:∀(c:Zf) (dv:V) (b:Bool) (k:List UInt8) (T:List V) (H:Heap),Qf dv k->c.n=k.length->((b=true/\c∈x.p.changes/\c.set=s/\c.obj=o/\c.index=i)\/(b=false/\c=Qeh))->Xn Tryz.prog Tryz.f30 T H=some (.tuple [.agg (Za c dv),.bool b])->Qk Tryz.prog Tryz.f30 (Q4v x s o i) .ret T H:=fun c dv b k T H hd hn hb h1=>
  Qk.ret h1 (Jc (Qa (Qay (Q30 hd)) (Qa rfl rfl))) ⟨c,dv,b,rfl,⟨k,hd,hn⟩,hb⟩
 simp only[Zd];cases hb:Qb0 (cCh x.p.changes s o i) x.p.changes.length
 . rw[hb] at hm1;simp only[wA,↓Qc,simprocAttr,Tryz.ntmps30,ta,wH,wB,hm1,s1,s2,s3,s4,s5,s6,s7,s8];exact W.done (good Qeh .nS false [] _ _ Qf.nil rfl (.inr ⟨rfl,rfl⟩) rfl)
 . rw[hb] at hm1;obtain⟨hlt,h0⟩:=Qui hb;generalize bs (cCh x.p.changes s o i) x.p.changes.length=j at*;obtain⟨dv,k,e1,hd,hn⟩:=K9.at_ hc hlt;have hpl:Qfo x.p.changes[j] s o i=0:=by
    have:cCh x.p.changes s o i j=Qfo x.p.changes[j] s o i:=by unfold cCh;rw[Zra hlt]
    rw[<-this];exact h0
   obtain⟨q1,q2,q3⟩:=Qzo hpl;have at1:=hv.at (k:= .i64) Tryz.underlying34 Qzq (by decide) (i:=(j:Int)) (by omega) (by omega);have ld:∀g,ldV Tryz.prog 59 g (.iptr cs ((j:Int).toNat*12))=some (.agg (Za x.p.changes[j] dv)):=fun g=>by show Qn Tryz.prog 59 cs (j*12)=_;have:=hc.toC.len;rw[rd59,if_pos (by omega),e1]
   have hmem:x.p.changes[j]∈x.p.changes:=Ztp hlt;generalize x.p.changes[j]=c at*;have sd:=Ze hd;have hg:=good c dv true k;obtain⟨c1,c2,c3,c4,c5,c6,c7,⟨p1,p2,p3,p4,p5⟩⟩:=c;simp only[Za] at ld;simp only[wA,↓Qc,simprocAttr,Tryz.ntmps30,ta,wH,wB,hm1,s1,s2,s3,s4,s5,s6,s7,s8,at1,ld,sd];exact W.done (hg _ _ hd hn (.inl ⟨rfl,hmem,q1,q2,q3⟩) rfl)
def RRoot(r:V):Prop:=∃(o:Q1x) (dv:V) (e:Int),r= .tuple [.agg (Qgi o dv),.int .i64 e]/\Jn dv o.data/\(e=0->o.data.length=15/\(∀p∈o.data,Yp p=true)/\0<=o.size/\o.size<=3840)
theorem Zdp{o:Q1x}(h:Qla o=true):o.data.length=15/\(∀p∈o.data,Yp p=true)/\0<=o.size/\o.size<=3840:=by simp only[Qla,btw,Zss,Zsr,Zt0,Zr1,decide_eq_true_eq,bne_eq_false_iff_eq,Ztg,Bool.not_eq_true] at h;refine⟨by omega,fun p hp=>?_,by omega,by omega⟩;have:=h.2.2.2.2 p hp;simpa using this
def zP15:List Zq:=List.replicate 15 J3
theorem Qsf(h:Jx bv wv sv mv lv kv ov cv x)(f:x.Fits)(l:Zt)(dv:V)(hd:Jn dv l.dead)(obj:Int):Fz Tryz.prog Qg 32 [.agg (Zd bv wv sv mv lv kv ov cv x.p),.agg (Zu l dv),.int .i64 obj] RRoot:=by
 refine Qw Tryz.func32 rfl ?_;have hst:=Qn4 h f;obtain⟨m,⟨o,pv,e,rfl,hpv,hr⟩,hm⟩:=(Q6y hst x.p.epoch x.p.count l.root obj).op (by rfl) (Qa (Qas hst _ _ _) (Qa rfl (Qa rfl rfl)));have hm1:∀s H,_:=fun s H=>hm 32 0 s H rfl;obtain⟨s1,s2,s3,s4,s5,s6,s7,s8⟩:=Bf h;have sd:=Ze hd;have sp:=Ze hpv;have good:∀(o:Q1x) (pv:V) (e:Int) (T:List V) (H:Heap),Jn pv o.data->(e=0->Qla o=true)->Xn Tryz.prog Tryz.f32 T H=some (.tuple [.agg (Qgi o pv),.int .i64 e])->Qk Tryz.prog Tryz.f32 RRoot .ret T H:=fun o pv e T H hp ho h1=>
  Qk.ret h1 (Jc (Qa (Qay (Qa rfl (Qa rfl (Qa rfl (Qa (Q0.frz hp 9) rfl))))) (Qa rfl rfl))) ⟨o,pv,e,rfl,hp,fun he=>Zdp (ho he)⟩
 have ho:e=0->Qla o=true:=fun he=>by
  rcases hr with⟨_,h1⟩|⟨h1,_⟩
  . exact h1
  . exact absurd he h1
 obtain⟨ok,ol,os,od⟩:=o;obtain⟨lid,kind,owner,prev,txg,guid,key,⟨ra,rb,rc,rd,re⟩,dead⟩:=l;simp only[Zd,Zu,Qgi,Zq.cells] at hm1⊢;cases c1:(e==6)
 . simp only[wA,↓Qc,simprocAttr,Tryz.ntmps32,ta,wH,wB,hm1,s1,s2,s3,s4,s5,s6,s7,s8,sd,sp,c1];exact W.done (good ⟨ok,ol,os,od⟩ pv e _ _ hpv ho rfl)
 . have r1:Jl 15 24=true:=rfl;simp only[wA,↓Qc,simprocAttr,Tryz.ntmps32,ta,wH,wB,hm1,s1,s2,s3,s4,s5,s6,s7,s8,sd,sp,c1,r1,Tryz.underlying55,byP];exact W.done (Qk.ret (v:= .tuple [.agg [.int .u8 0,.int .i64 0,.int .i64 0,.mS 0 21 0 15 (some 15) 5],.int .i64 0]) rfl (Jc (Qa (Qay (Qa rfl (Qa rfl (Qa rfl (Qa (Qw1 (l:=zP15) rfl rfl 8) rfl))))) (Qa rfl rfl)))
    ⟨⟨0,0,0,zP15⟩,_,0,rfl,by have:=Q0.mk (esz:=5) (full:=true) (Br zP15);exact this,fun _=>⟨rfl,(fun p hp=>by rw[List.eq_of_mem_replicate hp];rfl),by decide,by decide⟩⟩)
end
end Go.Proofs.YtidniacddkalaaaGreatDoor
namespace Go.Proofs.YtidniacddkalaaaGreatDoor
open Go.AM
attribute [local irreducible] U W
theorem Qth(v:V)(l:List Zq)(hv:Jn v l)(hl:l.length<=1000000):Fz Tryz.prog Qg 27 [v] fun r=>Jn r l:=by
 refine Qw Tryz.func27 rfl ?_;obtain⟨hlen,⟨rfl,hn⟩|⟨f,rfl⟩⟩:=id hv
 . have h0:l=[]:=Zst hn;subst h0;have e:∀p q,Zp Tryz.prog .eql 55 p q .nS .nS=some (.bool true):=fun p q=>rfl;simp only[wA,↓Qc,simprocAttr,Tryz.ntmps27,ta,wH,wB,e];exact W.done (Qk.ret rfl rfl Q0.nil)
 . have sc:∀g,Ql g 5 (.iS (Zg l) l.length f)=some (Zg l,l.length):=fun g=>Q0.sc hv;have mt7:Qg.mt 27 7=false:=Qch (by decide) rfl;have mt5:Qg.mt 27 5=false:=Qch (by decide) rfl;by_cases h0:l=[]
   . subst h0;have ap:Qq Tryz.prog (Qg.mt 27) 0 (Qd [[]]) (some 7) 55 55 (.iS [] 0 true) (.iS (Zg []) 0 f)=some (.val (.iS [] 0 true) none):=by
      have:=sc (Qd [[]]);simp only[Zs9] at this;simp only[Qq,Tryz.underlying55,Qqa,byP,zc31,Z3,this];rfl
     simp only[wA,↓Qc,simprocAttr,Tryz.ntmps27,ta,wH,wB,Qbk Tryz.underlying55,Q2,ap,mt7,mt5,Tryz.underlying55,Zs9];exact W.done (Qk.ret (v:= .iS [] 0 true) (v' := .iS [] 0 true) rfl rfl (Q0.mk (cells:=[]) rfl))
   . have hp:0<l.length:=List.length_pos_iff.2 h0;have ap:Qq Tryz.prog (Qg.mt 27) 0 (Qd [[]]) (some 7) 55 55 (.iS [] 0 true) (.iS (Zg l) l.length f)=some (.val (.gS 0 7 (Zg l) l.length 5) (some (0,7,.grow l.length))):=by
      rw[Qk2 Tryz.underlying55 Qqa byP zc31 rfl Tryz.underlying55 (sc _) hp rfl (Jj (by omega) (by omega)),Zti,Zrm,Xc mt7 (Qc2 (Qaq l)) rfl]
     simp only[wA,↓Qc,simprocAttr,Tryz.ntmps27,ta,wH,wB,Qbk Tryz.underlying55,Q2,ap,mt7,mt5,Tryz.underlying55];refine W.done (Qk.ret (v:= .gS 0 7 (Zg l) l.length 5) (v' := .iS (Zg l) l.length false) rfl ?_ (Q0.mk (Br l)));show(Qt (AM.frz _ 11) (Zg l)).map _=_;rw[Qde _ 10 (Qaq l)];rfl
section
variable {bv wv sv mv lv kv ov cv : V} {x : B6}
theorem Qwx(h:Jx bv wv sv mv lv kv ov cv x)(f:x.Fits)(id:Int):Fz Tryz.prog Qg 13 [.agg (Zd bv wv sv mv lv kv ov cv x.p),.int .i64 id] (Q3j x id):=by
 refine Qw Tryz.func13 rfl ?_;obtain⟨m,⟨l,dv,e,rfl,hd,hr⟩,hm⟩:=(Qvg h f id).op (by rfl) (Qa (Xu h _) (Qa rfl rfl));have hm1:∀s H,_:=fun s H=>hm 13 0 s H rfl;have hdl:l.dead.length<=1000000:=by
  rcases hr with⟨_,hok,hl,_⟩|⟨_,rfl⟩
  . have:=Q5x hok l hl;omega
  . simp[Qob]
 obtain⟨m,hm2',hm⟩:=(Qth dv l.dead hd hdl).op (by rfl) (Qa (Q0.frz hd _) rfl);have hm2:∀s H,_:=fun s H=>hm 13 0 s H rfl;obtain⟨s1,s2,s3,s4,s5,s6,s7,s8⟩:=Bf h;have sd:=Ze hd;have sm:=Ze hm2';have smc:=Bu hm2';have good:∀(T:List V) (H:Heap),Xn Tryz.prog Tryz.f13 T H=some (.tuple [.agg (Zu l m),.int .i64 e])->Qk Tryz.prog Tryz.f13 (Q3j x id) .ret T H:=fun T H h1=>
  Qk.ret h1 (Jc (Qa (Qay (Q8i hm2')) (Qa rfl rfl))) ⟨l,m,e,rfl,hm2',hr⟩
 obtain⟨lid,kind,owner,prev,txg,guid,key,⟨ra,rb,rc,rd,re⟩,dead⟩:=l;simp only[Zd,Zu] at hm1⊢;simp only[wA,↓Qc,simprocAttr,Tryz.ntmps13,ta,wH,wB,hm1,s1,s2,s3,s4,s5,s6,s7,s8,sd,hm2,sm,smc];exact W.done (good _ _ rfl)
def Zao(r:V):Prop:=∃(c:Zf) (dv:V) (e:Int),r= .tuple [.agg (Za c dv),.int .i64 e]/\(∃k:List UInt8,Qf dv k)/\(e=0->0<=c.size/\c.size<=3840)
theorem Q4c(h:Jx bv wv sv mv lv kv ov cv x)(f:x.Fits)(hok:Qia x=true)(l:Zt)(dv:V)(hd:Jn dv l.dead)(obj:Int):Fz Tryz.prog Qg 29 [.agg (Zd bv wv sv mv lv kv ov cv x.p),.agg (Zu l dv),.int .i64 obj] Zao:=by
 refine Qw Tryz.func29 rfl ?_;obtain⟨m,⟨c,cdv,b,rfl,⟨k,hck,hcn⟩,hc⟩,hm⟩:=(Qs7 h hok l.id obj 15).op (by rfl) (Qa (Xu h _) (Qa rfl rfl));have hm1:∀s H,_:=fun s H=>hm 29 0 s H rfl;obtain⟨m,⟨o,pv,e,rfl,hpv,ho⟩,hm⟩:=(Qsf h f l dv hd obj).op (by rfl) (Qa (Xu h _) (Qa (Qbx hd) (Qa rfl rfl)));have hm2:∀s H,_:=fun s H=>hm 29 0 s H rfl;obtain⟨s1,s2,s3,s4,s5,s6,s7,s8⟩:=Bf h;have sd:=Ze hd;have sp:=Ze hpv;have sk:=Ze hck;have good:∀(c:Zf) (cdv:V) (k:List UInt8) (e:Int) (T:List V) (H:Heap),Qf cdv k->(e=0->0<=c.size/\c.size<=3840)->Xn Tryz.prog Tryz.f29 T H=some (.tuple [.agg (Za c cdv),.int .i64 e])->Qk Tryz.prog Tryz.f29 Zao .ret T H:=fun c cdv k e T H hk he h1=>
  Qk.ret h1 (Jc (Qa (Qay (Q30 hk)) (Qa rfl rfl))) ⟨c,cdv,e,rfl,⟨k,hk⟩,he⟩
 have zero:∀(e:Int) (T:List V) (H:Heap),e≠0->Xn Tryz.prog Tryz.f29 T H=some (.tuple [.agg (Za Qeh .nS),.int .i64 e])->Qk Tryz.prog Tryz.f29 Zao .ret T H:=fun e T H he h1=>good Qeh .nS [] e T H Qf.nil (fun h=>absurd h he) h1;obtain⟨lid,kind,owner,prev,txg,guid,key,⟨ra,rb,rc,rd,re⟩,dead⟩:=l;rcases hc with⟨rfl,hmem,q1,q2,q3⟩|⟨rfl,rfl⟩
 . have hsz:=Qoo ((Qz9 hok).change c hmem) q3;have hg:=good c cdv k 0;obtain⟨c1,c2,c3,c4,c5,c6,c7,⟨p1,p2,p3,p4,p5⟩⟩:=c;simp only[Zd,Zu,Za] at hm1⊢;cases k0:(c4==0)
   . simp only[wA,↓Qc,simprocAttr,Tryz.ntmps29,ta,wH,wB,hm1,s1,s2,s3,s4,s5,s6,s7,s8,sd,sk,k0];exact W.done (hg _ _ hck (fun _=>⟨hsz.1,hsz.2.1⟩) rfl)
   . simp only[wA,↓Qc,simprocAttr,Tryz.ntmps29,ta,wH,wB,hm1,s1,s2,s3,s4,s5,s6,s7,s8,sd,sk,k0];exact W.done (zero 6 _ _ (by decide) rfl)
 . obtain⟨ok,ol,os,od⟩:=o;simp only[Zd,Zu,Za,Qeh,Qgi,Zq.cells,J3] at hm1 hm2⊢;by_cases he:e=0
   . subst he;have hsz:=ho rfl;cases k0:(ok==0)
     . simp only[wA,↓Qc,simprocAttr,Tryz.ntmps29,ta,wH,wB,hm1,hm2,s1,s2,s3,s4,s5,s6,s7,s8,sd,sp,sk,k0];exact W.done (good ⟨0,0,0,ok,ol,os,0,J3⟩ .nS [] 0 _ _ Qf.nil (fun _=>⟨hsz.2.2.1,hsz.2.2.2⟩) rfl)
     . simp only[wA,↓Qc,simprocAttr,Tryz.ntmps29,ta,wH,wB,hm1,hm2,s1,s2,s3,s4,s5,s6,s7,s8,sd,sp,sk,k0];exact W.done (zero 6 _ _ (by decide) rfl)
   . have c1:(e !=0)=true:=by simpa using he
     simp only[wA,↓Qc,simprocAttr,Tryz.ntmps29,ta,wH,wB,hm1,hm2,s1,s2,s3,s4,s5,s6,s7,s8,sd,sp,sk,c1];exact W.done (zero e _ _ he rfl)
def RGet(r:V):Prop:=∃(k ln sz e:Int),r= .tuple [.int .u8 k,.int .i64 ln,.int .i64 sz,.int .i64 e]/\(e=0->0<=sz/\sz<=3840)
theorem Q23(h:Jx bv wv sv mv lv kv ov cv x)(f:x.Fits)(id obj:Int):Fz Tryz.prog Qg 15 [.agg (Zd bv wv sv mv lv kv ov cv x.p),.int .i64 id,.int .i64 obj] RGet:=by
 refine Qw Tryz.func15 rfl ?_;obtain⟨m,⟨l,dv,e,rfl,hd,hr⟩,hm⟩:=(Qvg h f id).op (by rfl) (Qa (Xu h _) (Qa rfl rfl));have hm1:∀s H,_:=fun s H=>hm 15 0 s H rfl;obtain⟨m,rfl,hm⟩:=(Qs9 (.iS [.int .i64 obj,.int .i64 16] 2 true) [obj,16] (Ke.mk _ _) 1 rfl (by omega)).op (by rfl) rfl;have hm2:∀s H,_:=fun s H=>hm 15 0 s H rfl;obtain⟨s1,s2,s3,s4,s5,s6,s7,s8⟩:=Bf h;have sd:=Ze hd;have mt:∀s,s<2000000->Qg.mt 15 s=false:=fun s h=>Qch h rfl;have bad:∀(y:Int) (T:List V) (H:Heap),y≠0->Xn Tryz.prog Tryz.f15 T H=some (.tuple [.int .u8 0,.int .i64 0,.int .i64 0,.int .i64 y])->Qk Tryz.prog Tryz.f15 RGet .ret T H:=fun y T H hy h1=>
  Qk.ret h1 rfl ⟨0,0,0,y,rfl,fun h=>absurd h hy⟩
 rcases hr with⟨rfl,hok,hmem,hid⟩|⟨he,rfl⟩
 . obtain⟨m,⟨c,cdv,e2,rfl,⟨k,hk⟩,hs⟩,hm⟩:=(Q4c h f hok l dv hd obj).op (by rfl) (Qa (Xu h _) (Qa (Qbx hd) (Qa rfl rfl)));have hm3:∀s H,_:=fun s H=>hm 15 0 s H rfl;have sk:=Ze hk;obtain⟨c1,c2,c3,c4,c5,c6,c7,⟨p1,p2,p3,p4,p5⟩⟩:=c;obtain⟨lid,kind,owner,prev,txg,guid,key,⟨ra,rb,rc,rd,re⟩,dead⟩:=l;simp only[Zd,Zu,Za] at hm1 hm3⊢;cases hp:Bg [obj,16]
   . rw[hp] at hm2;simp only[wA,↓Qc,simprocAttr,Tryz.ntmps15,ta,wH,wB,hm1,hm2,s1,s2,s3,s4,s5,s6,s7,s8,sd,mt,Tryz.underlying32];exact W.done (bad 2 _ _ (by decide) rfl)
   . rw[hp] at hm2;simp only[wA,↓Qc,simprocAttr,Tryz.ntmps15,ta,wH,wB,hm1,hm2,hm3,s1,s2,s3,s4,s5,s6,s7,s8,sd,sk,mt,Tryz.underlying32];refine W.opsT (by kernel_rfl) ?_;simp only[wA,↓Qc,simprocAttr,ta,wH,wB];exact W.done (Qk.ret (v:= .tuple [.int .u8 c4,.int .i64 c5,.int .i64 c6,.int .i64 e2]) rfl rfl ⟨c4,c5,c6,e2,rfl,hs⟩)
 . have c1:(e !=0)=true:=by simpa using he
   have c2:(e==0)=false:=by simpa using he
   simp only[Zd,Zu,Qob,J3] at hm1⊢;simp only[wA,↓Qc,simprocAttr,Tryz.ntmps15,ta,wH,wB,hm1,s1,s2,s3,s4,s5,s6,s7,s8,sd,c1,c2];exact W.done (bad e _ _ he rfl)
end
end Go.Proofs.YtidniacddkalaaaGreatDoor
namespace Go.Proofs.YtidniacddkalaaaGreatDoor
open Go.AM
attribute [local irreducible] U W
theorem Qei{pol:Pol}{fn fr:Nat}{dst:Option Nat}{f:FuncId}{args args' :List V}{v:V}{H H' :Heap}{x:V×Nat×O}{P:Program}(hp:pol.prim f=none)(hq:pol.pure fn f=false)(hl:pol.lift fn f=true)(ha:Qt (frz (fun _ _=>none) depth) args=some args')(h:Qp P pol f args' []=some (.ret v,H'))(hv:Qcd H' fr dst H v=some x):
 callOp pol (Qp P pol) fn fr dst f args H=some (.ret x.1,wr H (some (fr,x.2.1,x.2.2))):=by
 simp only[callOp,hp,hq,hl,ha,h,hv,Zre,if_false,if_true,Zrb]
def zB(n:Nat):List UInt8:=List.replicate n 0
theorem Qgc(n:Nat):(zB n).length=n:=by simp[zB]
theorem Qip:∀n,zerosN [V.int .u8 0] n=Qb (zB n)
 |0=>rfl
 |n+1=>by
  have:=Qip n;simp only[zerosN,this];rfl
theorem Zed(n:Nat)(hn:0<n)(hn2:n<=1048576):CW Tryz.prog Qg 171 [.nS,.int .i64 n] [] fun r H=>r= .ret (.mS 0 22 0 0 none 1)/\Qd H 0 22=some (.cells (Qb (zB n))):=by
 refine Kb Tryz.func171 rfl ?_;have c1:decide ((n:Int)<0)=false:=by simp
 have c2:decide ((n:Int)>0)=true:=by simp;omega
 have w0:(IntKind.i64).wrap 0=0:=rfl;have w1:(IntKind.i64).wrap ((n:Int)-0)=n:=by rw[wrap_i64]<;>omega
 have w2:(IntKind.i64).wrap (n:Int)=n:=by rw[wrap_i64]<;>omega
 have mt:Qg.mt 171 22=true:=rfl;have cp:∀g d,builtinV Tryz.prog (Qg.mt 171) 0 g d .cap #[26] [.nS]=some (.val (.int .i64 0) none):=fun g d=>by simp only[builtinV,capV,Tryz.underlying26];rfl
 have sn:∀g,Zh Tryz.prog g 26 .nS none (some (.int .i64 0)) none=some .nS:=fun g=>by have ol:Yj (some (.int .i64 0))=some (some 0):=rfl;have on:Yj none=some none:=rfl;simp only[Zh,ol,on,Tryz.underlying26,sz5];rfl
 have sm:∀g,Zh Tryz.prog g 26 (.mS 0 22 0 n none 1) none (some (.int .i64 0)) none=some (.mS 0 22 0 0 none 1):=fun g=>by
  have ol:Yj (some (.int .i64 0))=some (some 0):=rfl;have on:Yj none=some none:=rfl;have cu:Xs n n none (some 0) none=some (0,0,n):=by simp[Xs]
  simp only[Zh,ol,on,Tryz.underlying26,sz5,Qps,cu,if_true];rw[if_neg (by simp),if_pos hn]
 have ap:Qq Tryz.prog (Qg.mt 171) 0 (Qd [[]]) (some 22) 26 3 .nS (.int .i64 n)=some (.val (.mS 0 22 0 n none 1) (some (0,22,.cells (Qb (zB n))))):=by
  obtain⟨m,rfl⟩:∃m,n=m+1:=⟨n-1,by omega⟩;have r1:Jl (m+1) 1=true:=Jj (by omega) (by omega);have asr:Z3 Tryz.prog (Qd [[]]) 3 1 1 [.int .u8 0] (.int .i64 ((m+1:Nat):Int))=some (Qb (zB (m+1)),m+1):=by simp only[Z3,Tryz.underlying3];rw[if_pos ⟨by omega,by simpa using r1⟩,<-Qip];rfl
  have z1:zeroCells Tryz.prog 5=some [.int .u8 0]:=zc5;simp only[Qq,Tryz.underlying26,sz5,Qcp,z1,asr,appendTo,r1,if_true];rw[if_pos (show[V.int .u8 0].length=1 from rfl),Qqb mt (Ja _) rfl]
 simp only[wA,↓Qc,simprocAttr,Tryz.ntmps171,ta,wH,wB,c1,c2,w0,w1,w2,Q2,ap,Tryz.underlying26,cp,sn,sm];refine W.done (End.ret (v:= .mS 0 22 0 0 none 1) rfl ⟨rfl,?_⟩);rw[K3 rfl];rfl
theorem Qil{α:Type}(l:List (List α))(i:Nat)(h:i<l.length):(l.take (i+1)).flatten=(l.take i).flatten++l[i]:=by rw[Zty h,Zsj];simp
theorem Zea{α:Type}(l:List (List α))(i:Nat):((l.take i).flatten).length<=l.flatten.length:=by
 have:l.flatten=(l.take i).flatten++(l.drop i).flatten:=by rw[<-Zsj,Zse]
 rw[this,Zsi];omega
def Qer(l:List (List UInt8))(i:Nat):List UInt8:=(l.take i).flatten++zB (l.flatten.length-((l.take i).flatten).length)
theorem Q61(l:List (List UInt8))(i:Nat)(h:i<l.length):((Qer l i).take ((l.take i).flatten).length)++l[i]++(Qer l i).drop (((l.take i).flatten).length+l[i].length)=Qer l (i+1):=by
 have e:=Qil l i h;have e1:((l.take (i+1)).flatten).length=((l.take i).flatten).length+l[i].length:=by rw[e,Zsi]
 unfold Qer;rw[List.take_left,<-Zsh,List.drop_left,e1,e];have:(zB (l.flatten.length-((l.take i).flatten).length)).drop l[i].length=zB (l.flatten.length-(((l.take i).flatten).length+l[i].length)):=by unfold zB;rw[List.drop_replicate];congr 1;omega
 rw[this]
theorem Qiq(v:V)(rows:List (List UInt8))(hv:Kt v rows)(hn:rows.length<=1048576)(hl:rows.flatten.length<=1048576)(hpos:0<rows.flatten.length):
 Fz Tryz.prog Qg 121 [v] fun r=>r= .iS (Qb rows.flatten) rows.flatten.length false:=by
 refine Qw Tryz.func121 rfl ?_;obtain⟨cs,hc,hv⟩:=hv;have len:=hv.len Tryz.underlying22;have w0:∀n:Nat,n<=4194304->(IntKind.i64).wrap (n:Int)=n:=fun n hn=>by rw[wrap_i64]<;>omega
 generalize hN:rows.flatten.length=N at*;have hle:∀i,((rows.take i).flatten).length<=N:=fun i=>by rw[<-hN];exact Zea rows i
 have row:∀i:Nat,(h:i<rows.length)->∃w,Qm Tryz.prog 22 v (.int .i64 i)=some (.iptr cs ((i:Int).toNat*1))/\(cs[(i:Int).toNat*1]?=some w/\cs[(i:Int).toNat]?=some w)/\Qf w rows[i]:=fun i h=>by obtain⟨w,h1,h2⟩:=hc.at_ h;refine⟨w,hv.at (k:= .i64) Tryz.underlying22 Qew (by decide) (i:=(i:Int)) (by omega) (by omega),⟨by simpa using h1,by simpa using h1⟩,h2⟩
 simp only[wA,↓Qc,simprocAttr,Tryz.ntmps121,ta,wH,wB,len];refine W.ul ?_;refine W.loopS (kt:=[0,3,9,10,11]) rfl (fun i:Nat=>Q4s v (.int .i64 (((rows.take i).flatten).length:Nat)) v (.int .i64 rows.length) (.int .i64 i)) (fun _=>[[]]) (fun i=>i<=rows.length) (fun i=>rows.length-i) ?_ 0 (Zt2 _) rfl rfl;rintro i hi;simp only[Q4s];by_cases h:i<rows.length
 . have c1:decide ((i:Int)<rows.length)=true:=Zum (by omega);obtain⟨w,at1,⟨ld1,ld2⟩,hw⟩:=row i h;have lw:=hw.len Tryz.underlying26;have e1:((rows.take (i+1)).flatten).length=((rows.take i).flatten).length+rows[i].length:=by rw[Qil rows i h,Zsi]
   have hx:=hle (i+1);have wa:(IntKind.i64).wrap ((((rows.take i).flatten).length:Nat)+(rows[i].length:Int))=((((rows.take i).flatten).length+rows[i].length:Nat):Int):=by rw[wrap_i64]<;>omega
   have wi:(IntKind.i64).wrap ((i:Int)+1)=((i+1:Nat):Int):=by rw[wrap_i64]<;>omega
   have c2:decide (((((rows.take i).flatten).length+rows[i].length:Nat):Int)<0)=false:=by simp only[decide_eq_false_iff_not];omega
   have sw:=Ze hw;rw[<-e1] at wa c2;simp only[wA,↓Qc,simprocAttr,ta,wH,wB,c1,at1,ld1,ld2,lw,wa,wi,c2,sw];exact W.done ⟨i+1,rfl,rfl,h,by omega⟩
 . have c1:decide ((i:Int)<rows.length)=false:=Zun (by omega);have hi' :i=rows.length:=by omega
   subst hi';have eN:((rows.take rows.length).flatten).length=N:=by rw[Ztv,hN]
   obtain⟨r,H1,g1,rfl,g2⟩:=Zed N hpos hl;have lf:∀(H:Heap),Qd H 0 24=none->callOp Qg (Qp Tryz.prog Qg) 121 0 (some 24) 171 [.nS,.int .i64 N] H=some (.ret (.mS 0 24 0 0 none 1),wr H (some (0,24,.cells (Qb (zB N))))):=fun H hg=>
    Qei (x:=(.mS 0 24 0 0 none 1,24,.cells (Qb (zB N)))) rfl rfl rfl rfl g1 (by simp only[Qcd,hg,g2,Yc,if_true])
   have lf0:=lf [[]] rfl;rw[eN];simp only[wA,↓Qc,simprocAttr,ta,wH,wB,c1,lf0];refine W.done ?_;simp only[wA,↓Qc,simprocAttr,ta,wH,wB,c1,lf0,len];refine W.ul ?_;refine W.loopS (kt:=[6,25,26,27]) rfl (fun i:Nat=>Qwm (.mS 0 24 0 (((rows.take i).flatten).length) none 1) v (.int .i64 rows.length) (.int .i64 i)) (fun i=>[[(24,.cells (Qb (Qer rows i)))]]) (fun i=>i<=rows.length) (fun i=>rows.length-i) ?_ 0 (Zt2 _) rfl (by rw[show Qer rows 0=zB N by simp[Qer,hN]]);rintro i hi;simp only[Qwm];have catl:(Qb (Qer rows i)).length=N:=by have:=hle i;rw[Q8,Qer,hN,Zsi,Qgc];omega
   by_cases h:i<rows.length
   . have c1:decide ((i:Int)<rows.length)=true:=Zum (by omega);obtain⟨w,at1,⟨ld1,ld2⟩,hw⟩:=row i h;have wi:(IntKind.i64).wrap ((i:Int)+1)=((i+1:Nat):Int):=by rw[wrap_i64]<;>omega
     have sw:=Ze hw;have e1:((rows.take (i+1)).flatten).length=((rows.take i).flatten).length+rows[i].length:=by rw[Qil rows i h,Zsi]
     have hx:=hle (i+1);have sc:∀g,Ql g 1 w=some (Qb rows[i],rows[i].length):=fun g=>Q0.sc hw;by_cases h0:rows[i].length=0
     . have ap:Qq Tryz.prog (Qg.mt 121) 0 (Qd [[(24,.cells (Qb (Qer rows i)))]]) (some 33) 26 26 (.mS 0 24 0 (((rows.take i).flatten).length) none 1) w=some (.val (.mS 0 24 0 (((rows.take (i+1)).flatten).length) none 1) none):=by
        rw[e1,h0,Ztw];exact Zb6 (cs:=Qb rows[i]) Tryz.underlying26 sz5 Qcp zc5 rfl Tryz.underlying26 rfl (by rw[sc,h0])
       have ec:Qer rows (i+1)=Qer rows i:=by have:rows[i]=[]:=Zst h0;unfold Qer;rw[Qil rows i h,this,Zsp]
       simp only[wA,↓Qc,simprocAttr,ta,wH,wB,c1,at1,ld1,ld2,wi,sw,Q2,ap,Tryz.underlying26];exact W.done ⟨i+1,rfl,by rw[ec],h,by omega⟩
     . obtain⟨m,hm⟩:∃m,rows[i].length=m+1:=⟨rows[i].length-1,by omega⟩;have ap:Qq Tryz.prog (Qg.mt 121) 0 (Qd [[(24,.cells (Qb (Qer rows i)))]]) (some 33) 26 26 (.mS 0 24 0 (((rows.take i).flatten).length) none 1) w=some (.val (.mS 0 24 0 (((rows.take (i+1)).flatten).length) none 1) (some (0,24,.cells (Qb (Qer rows (i+1)))))):=by
        have r1:Jl (((rows.take i).flatten).length+(m+1)) 1=true:=Jj (by omega) (by omega);have z1:zeroCells Tryz.prog 5=some [.int .u8 0]:=zc5;have sc1:=sc (Qd [[(24,.cells (Qb (Qer rows i)))]]);rw[hm] at sc1;have hg:Qd [[(24,O.cells (Qb (Qer rows i)))]] 0 24=some (.cells (Qb (Qer rows i))):=rfl;have asr:Z3 Tryz.prog (Qd [[(24,.cells (Qb (Qer rows i)))]]) 26 1 1 [.int .u8 0] w=some (Qb rows[i],m+1):=by simp only[Z3,Tryz.underlying26,sc1]
        simp only[Qq,Tryz.underlying26,sz5,Qcp,z1,asr,appendTo,r1,hg,and_self,if_true];rw[if_pos (show[V.int .u8 0].length=1 from rfl),if_pos ⟨by omega,Ja _,by omega⟩,e1,hm,Zrm,Zsd,Qtf,Q61 rows i h]
       simp only[wA,↓Qc,simprocAttr,ta,wH,wB,c1,at1,ld1,ld2,wi,sw,Q2,ap,Tryz.underlying26];exact W.done ⟨i+1,rfl,rfl,h,by omega⟩
   . have c1:decide ((i:Int)<rows.length)=false:=Zun (by omega);have hi' :i=rows.length:=by omega
     subst hi';simp only[wA,↓Qc,simprocAttr,ta,wH,wB,c1];refine W.done ?_;simp only[wA,↓Qc,simprocAttr,ta,wH,wB];have ec:Qer rows rows.length=rows.flatten:=by unfold Qer;rw[Ztv,Zt5];simp[zB]
     rw[eN,ec];have:=Q1i (g:=Qd [[(24,O.cells (Qb rows.flatten))]]) (f:=0) (s:=24) (l:=rows.flatten) rfl 10;rw[hN] at this;exact W.done (Qk.ret (v:= .mS 0 24 0 N none 1) rfl this rfl)
end Go.Proofs.YtidniacddkalaaaGreatDoor
end
