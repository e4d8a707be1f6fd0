/- This file holds in one the texts E12, F11, F13, F31, F6, F7, F8, F12, LN2, TW1, F18; each says at its head what it proves. -/
import Derived.Test.YtpdimkonjmoadaaGreatDoorT13
import Derived.Test.YtpdimkonjmoadaaGreatDoorT18
import Derived.Test.YtpdimkonjmoadaaGreatDoorT21
import Derived.Test.YtpdimkonjmoadaaGreatDoorT22
import Derived.Test.YtpdimkonjmoadaaGreatDoorT23
set_option linter.unusedSimpArgs false
set_option linter.unusedVariables false
section
set_option maxRecDepth 100000
namespace Go.Proofs.YtpdimkonjmoadaaGreatDoor
open Go.AM
attribute [local irreducible] U W
theorem Qb3(x y:Operand)(a b:Bool):Zj Tp .neq 4 x y (.bool a) (.bool b)=some (.bool (a !=b)):=by
 have hg:(Tp).eqGuardType (Tp).depth 4=false:=by kernel_rfl
 simp only[Zj,Qj8,Tryz.underlying4,hg,eqV,Zpo,if_false];cases a<;>cases b<;>rfl
set_option maxHeartbeats 16000000 in
theorem Za2{bv wv sv mv lv kv ov cv:V}{d:Int}{space:List UInt8}{p:Qqv}(hp:Q7f bv wv sv mv lv kv ov cv d space p):Fz Tp Qf 20 [.agg (Qy bv wv sv mv lv kv ov cv p)] fun x=>x= .int .i64 (okE (Q2j d (Qbg space) (Qis space) p)):=by
 refine Zp Tryz.func20 rfl ?_;obtain⟨hdev,hfrz,hfr0,hnr,sb,sw,hspace,hown,⟨lcs,hlc,hlv⟩,hkeys,hload,⟨ccs,hcc,hcv⟩,f1,f2,f3,f4,f5,f6,f7⟩:=hp;have ss:=Zo hspace;have sm:=Zo hown;have sl:=Zo hlv;obtain⟨kcs,hkc,hkv⟩:=hkeys;have sk:=Zo hkv;obtain⟨ocs,hoc,hov⟩:=hload;have so:=Zo hov;have sc:=Zo hcv;obtain⟨epoch,count,gen,root,own,lines,keys,loaded,changes,logged,nid,ng⟩:=p;simp only at*;obtain⟨m,rfl,hm⟩:=(Qsu bv wv sv d hdev hfrz sb sw space hspace epoch count).op (by rfl) (by
  refine Qa ?_ rfl;have e:Qx (frz (fun _ _=>none) 11) [bv,wv,sv,.int .u32 epoch,.int .u32 count]=some [bv,wv,sv,.int .u32 epoch,.int .u32 count]:=
   Qa (hfr0 _ 1).1 (Qa (hfr0 _ 1).2 (Qa (Qv.frz hspace _) rfl))
  show Option.map V.agg (Qx (frz _ 11) _)=_
  rw[e];rfl)
 have hm1:∀s H,_:=fun s H=>hm 20 0 s H rfl;obtain⟨m,rfl,hm⟩:=(Qdt root).op (by rfl) rfl;have hm2:∀s H,_:=fun s H=>hm 20 0 s H rfl;have hq:=fun x y=>Qmj (x:=x) (y:=y) root Qfj;have len:=hown.len Zu2;have hD:∀r,okE (Q2j d (Qbg space) (Qis space) ⟨epoch,count,gen,r,own,lines,keys,loaded,changes,logged,nid,ng⟩)=okE (if Qv6 d (Qbg space) ⟨epoch,count,gen,r,own,lines,keys,loaded,changes,logged,nid,ng⟩ then false else if Qi8 (Qis space) none own then(if Q1u ⟨epoch,count,gen,r,own,lines,keys,loaded,changes,logged,nid,ng⟩ then false else if Qrw lines none changes then !(lines.any (Yo nid ng)) else false) else false):=fun r=>rfl;rw[hD];have hH:∀r,Qv6 d (Qbg space) ⟨epoch,count,gen,r,own,lines,keys,loaded,changes,logged,nid,ng⟩=((!(Qd6 d (Qbg space) epoch count))||(decide (gen>16777215)||(!(Qgx r)||(decide (r=Qfj) !=(gen==0))))):=fun r=>rfl;rw[hH];generalize hMB:Q1u _=mb;have hMB' :mb=((!(Qay lines))||((!(Qdv keys 24))||((!(Qdv loaded 16))||(decide (logged<0)||(decide (logged>8)||(decide (nid<1)||decide (nid>256))))))):=hMB.symm;clear hMB hD hH;generalize Qgx root=po at*;generalize decide (root=Qfj)=pz at*;generalize hst:Qd6 d (Qbg space) epoch count=st at*;obtain⟨ra,rb,rc,rd,re⟩:=root;simp only[Ka.cells,Qfj] at hm2 hq;generalize hnb:(if Qi8 (Qis space) none own=true then if mb=true then false else if Qrw lines none changes=true then !lines.any (Yo nid ng) else false else false)=nb;simp only[wX,↓Qc,simprocAttr,Tryz.ntmps20,Qy,sb,sw,ss,sm,sl,sk,so,sc,hm1,hm2,hq,X7,Qb3]
 repeat' ((first|refine W.guardF ?_ ?_|refine W.guardT ?_ ?_|refine W.guardXF ?_ ?_|refine W.guardXT ?_ ?_|refine W.ite ?_ ?_|refine W.opsK1 (by kernel_rfl) ?_)<;>intro h<;>simp only[wX,↓Qc,simprocAttr,h,sb,sw,ss,sm,sl,sk,so,sc,hm1,hm2,hq,X7,Qb3,len])
 all_goals first
  |(refine W.done (Zc.ret rfl rfl ?_)
    simp only[*,Yb,if_true,if_false]
    rfl)
  |skip
 have eQ:okE (if(false||(false||(false||false)))=true then false else nb)=okE nb:=rfl;rw[eQ];have hst2:Qd6 d (Qbg space) epoch count=true:=by rw[hst];simpa using ‹(!st)=false›
 have hsp:space.length=256:=by simp only[Qd6,Zqg,Zqe,Bool.not_eq_false',Qbg,Zqf,beq_iff_eq] at hst2;exact hst2.2.1.1.1
 have pcD:∃pc,pc=[bv,wv,sv,V.int .u32 epoch,V.int .u32 count,V.int .u32 gen,V.int .i64 ra,V.int .u32 rb,V.int .u32 rc,V.int .u32 rd,V.int .u32 re,mv,lv,kv,ov,cv,V.int .i64 logged,V.int .i64 nid,V.int .u32 ng]:=⟨_,rfl⟩;obtain⟨pc,hpc⟩:=pcD;rw[<-hpc];have g2:pc[2]?=some sv:=by rw[hpc];rfl
 have g11:pc[11]?=some mv:=by rw[hpc];rfl
 have g12:pc[12]?=some lv:=by rw[hpc];rfl
 have g13:pc[13]?=some kv:=by rw[hpc];rfl
 have g14:pc[14]?=some ov:=by rw[hpc];rfl
 have g15:pc[15]?=some cv:=by rw[hpc];rfl
 have g16:pc[16]?=some (.int .i64 logged):=by rw[hpc];rfl
 have g17:pc[17]?=some (.int .i64 nid):=by rw[hpc];rfl
 have g18:pc[18]?=some (.int .u32 ng):=by rw[hpc];rfl
 have gl:pc.length=19:=by rw[hpc];rfl
 have gr:∀q,Qh q pc=false:=fun q=>by rw[hpc];simp only[Qh,V.refs,(hnr q).1,(hnr q).2,hspace.noRefs q,hown.noRefs q,hlv.noRefs q,hkv.noRefs q,hov.noRefs q,hcv.noRefs q,Zsi,Zsl]
 clear hpc hm1 hm2 hq hst2;refine W.ul ?_;refine W.loopS (kt:=[1,34,35,36]) rfl (fun i:Nat=>Q8k (.ptr 0 1 0) mv (.int .i64 own.length) (.int .i64 i)) (fun _=>[[(1,.cells pc)]]) (fun i=>i<=own.length/\Qi8 (Qis space) (before own i) (own.drop i)=Qi8 (Qis space) none own) (fun i=>own.length-i) ?_ 0 ⟨by omega,rfl⟩ rfl rfl;rintro i ⟨hi,hR⟩;simp only[Q8k];by_cases h:i<own.length
 . have c1:decide ((i:Int)<own.length)=true:=Zsw (by omega);have at1:=hown.at (k:= .i64) Zu2 sz3 (by decide) (i:=(i:Int)) (by omega) (by omega);have w1:(IntKind.i64).wrap ((i:Int)+1)=((i+1:Nat):Int):=by rw[wrap_i64]<;>omega
   have q1:(Qm own)[(i:Int).toNat*1]?=some (.int .i64 own[i]):=by simp[h,Qm]
   have q1' :(Qm own)[(i:Int).toNat]?=some (.int .i64 own[i]):=by simp[h,Qm]
   have hS:Qi8 (Qis space) (before own i) (own.drop i)=if decide (own[i]<12)||(decide (own[i]>=256)||((match before own i with|some q=>decide (own[i]<=q)|none=>false)||(Qis space own[i].toNat !=1))) then false else Qi8 (Qis space) (before own (i+1)) (own.drop (i+1)):=by
    rw[Zsn h];have e:before own (i+1)=some own[i]:=by simp only[before,Zpk h]
    rw[e];rfl
   rw[hR] at hS;generalize hp:own[i]=a at*;generalize hnx:Qi8 (Qis space) (before own (i+1)) (own.drop (i+1))=nx at hS;have walkR:∀(X:List (Nat×Nat)),True:=fun _=>trivial;by_cases hA:decide (a<12)=true
   . simp only[wA,↓Qc,simprocAttr,c1,at1,q1,q1',hA,rd3,ta,wH]
     repeat' ((first|refine W.guardF ?_ ?_|refine W.guardT ?_ ?_|refine W.guardXF ?_ ?_|refine W.guardXT ?_ ?_|refine W.ite ?_ ?_|refine W.opsK1 (by kernel_rfl) ?_)<;>intro h<;>simp only[wA,↓Qc,simprocAttr,h,ta,wH])
     all_goals first
      |(refine W.done ?_
        simp only[wA,↓Qc,simprocAttr];refine W.done (Zc.ret rfl rfl ?_);rw[<-hnb,hS];simp only[*,Yb,if_true,if_false]
        try rfl)
      |(try simp only[wA,↓Qc,simprocAttr,w1,(rfl:(IntKind.i64).wrap 1=1)]
        refine W.done ⟨i+1,rfl,rfl,⟨by omega,?_⟩,by omega⟩;rw[hS,hnx];simp only[*,Yb,if_true,if_false]
        try rfl)
   have hA' :decide (a<12)=false:=by simpa using hA
   by_cases hB:decide (a>=256)=true
   . simp only[wA,↓Qc,simprocAttr,c1,at1,q1,q1',hA',hB,rd3,ta,wH]
     repeat' ((first|refine W.guardF ?_ ?_|refine W.guardT ?_ ?_|refine W.guardXF ?_ ?_|refine W.guardXT ?_ ?_|refine W.ite ?_ ?_|refine W.opsK1 (by kernel_rfl) ?_)<;>intro h<;>simp only[wA,↓Qc,simprocAttr,h,ta,wH])
     all_goals first
      |(refine W.done ?_
        simp only[wA,↓Qc,simprocAttr];refine W.done (Zc.ret rfl rfl ?_);rw[<-hnb,hS];simp only[*,Yb,if_true,if_false]
        try rfl)
      |(try simp only[wA,↓Qc,simprocAttr,w1,(rfl:(IntKind.i64).wrap 1=1)]
        refine W.done ⟨i+1,rfl,rfl,⟨by omega,?_⟩,by omega⟩;rw[hS,hnx];simp only[*,Yb,if_true,if_false]
        try rfl)
   have hB' :decide (a>=256)=false:=by simpa using hB
   have h1' :12<=a:=by have:=of_decide_eq_false hA';omega
   have h2' :a<256:=by have:=of_decide_eq_false hB';omega
   have hlt:a.toNat<space.length:=by omega
   have at3:=hspace.at (k:= .i64) Zu0 sz5 (by decide) (i:=a) (by omega) (by omega);have q3:(Qb space)[a.toNat*1]?=some (.int .u8 (Qis space a.toNat)):=by rw[Zp7,Qek,Zpk hlt,Zpl];unfold Qis;rw[Zsp,Zpk hlt];rfl
   have q3' :(Qb space)[a.toNat]?=some (.int .u8 (Qis space a.toNat)):=by rw[<-q3,Zp7]
   generalize hsv:Qis space a.toNat=sa at*;cases i with
   |zero=>
    have c0:decide (((0:Nat):Int)>0)=false:=rfl;have hb0:before own 0=none:=rfl;simp only[hb0] at hS;simp only[Qki,Qdc,Qc8,Zm,Q9,Yy,nov,gd,rho,Qs,wr,Nat.reduceAdd,Nat.reduceSub,if_true,if_false,reduceIte,reduceCtorEq,Nat.reduceLT,Nat.reduceEqDiff,Nat.reduceMul,Nat.reduceLeDiff,Qh1,Int.reduceBEq,Int.reduceBNe,Int.reduceLT,Int.reduceLE,↓Qc,c1,at1,q1,q1',hA',hB',c0,at3,q3,q3',g2,g11,rd3,rd5,ta,wH]
    repeat' ((first|refine W.guardF ?_ ?_|refine W.guardT ?_ ?_|refine W.guardXF ?_ ?_|refine W.guardXT ?_ ?_|refine W.ite ?_ ?_|refine W.opsK1 (by kernel_rfl) ?_)<;>intro h<;>simp only[wA,↓Qc,simprocAttr,h,c0,at3,q3,q3',g2,g11,rd3,rd5,ta,wH])
    all_goals first
     |(refine W.done ?_
       simp only[wA,↓Qc,simprocAttr];refine W.done (Zc.ret rfl rfl ?_);rw[<-hnb,hS];simp only[*,Yb,if_true,if_false]
       try rfl)
     |(try simp only[wA,↓Qc,simprocAttr,w1,(rfl:(IntKind.i64).wrap 1=1)]
       refine W.done ⟨0+1,rfl,rfl,⟨by omega,?_⟩,by omega⟩;rw[hS,hnx];simp only[*,Yb,if_true,if_false]
       try rfl)
   |succ k=>
    have c0:decide (((k+1:Nat):Int)>0)=true:=Zsw (by omega);have wk:(IntKind.i64).wrap (((k+1:Nat):Int)-1)=((k:Nat):Int):=by rw[wrap_i64]<;>omega
    have hk:k<own.length:=by omega
    have at2:=hown.at (k:= .i64) Zu2 sz3 (by decide) (i:=(k:Int)) (by omega) (by omega);have q2:(Qm own)[(k:Int).toNat*1]?=some (.int .i64 own[k]):=by simp[hk,Qm]
    have q2' :(Qm own)[(k:Int).toNat]?=some (.int .i64 own[k]):=by simp[hk,Qm]
    have hb:before own (k+1)=some own[k]:=by simp only[before,Zpk hk]
    simp only[hb] at hS;simp only[wA,↓Qc,simprocAttr,c1,at1,q1,q1',hA',hB',c0,wk,at2,q2,q2',at3,q3,q3',g2,g11,rd3,rd5,ta,wH]
    repeat' ((first|refine W.guardF ?_ ?_|refine W.guardT ?_ ?_|refine W.guardXF ?_ ?_|refine W.guardXT ?_ ?_|refine W.ite ?_ ?_|refine W.opsK1 (by kernel_rfl) ?_)<;>intro h<;>simp only[wA,↓Qc,simprocAttr,h,c0,wk,at2,q2,q2',at3,q3,q3',g2,g11,rd3,rd5,ta,wH])
    all_goals first
     |(refine W.done ?_
       simp only[wA,↓Qc,simprocAttr];refine W.done (Zc.ret rfl rfl ?_);rw[<-hnb,hS];simp only[*,Yb,if_true,if_false]
       try rfl)
     |(try simp only[wA,↓Qc,simprocAttr,w1,(rfl:(IntKind.i64).wrap 1=1)]
       refine W.done ⟨k+1+1,rfl,rfl,⟨by omega,?_⟩,by omega⟩;rw[hS,hnx];simp only[*,Yb,if_true,if_false]
       try rfl)
 . have c1:decide ((i:Int)<own.length)=false:=Zsx (by omega);have hA:Qi8 (Qis space) none own=true:=by
    rw[<-hR,Zrz (by omega)];cases hb:before own i<;>rfl
   rw[hA,if_pos rfl] at hnb;simp only[wA,↓Qc,simprocAttr,c1];refine W.done ?_;obtain⟨m,rfl,hm⟩:=(Qzs lv lines ⟨lcs,hlc,hlv⟩).op (by rfl) (Qa (hlv.frz _) rfl);have hm1:∀s H,_:=fun s H=>hm 20 0 s H rfl;obtain⟨m,rfl,hm⟩:=(Qq4 kv keys ⟨kcs,hkc,hkv⟩ f4 f6 24 (.inl rfl)).op (by rfl) (Qa (hkv.frz _) rfl);have hm2:∀s H,_:=fun s H=>hm 20 0 s H rfl;obtain⟨m,rfl,hm⟩:=(Qq4 ov loaded ⟨ocs,hoc,hov⟩ f5 f7 16 (.inr rfl)).op (by rfl) (Qa (hov.frz _) rfl);have hm3:∀s H,_:=fun s H=>hm 20 0 s H rfl;have hl16:Qay lines=true->lines.length<=1000000:=fun h=>by
    unfold Qay at h;by_cases hh:(lines.length:Int)>16
    . rw[if_pos (Zsw hh)] at h;cases h
    . omega
   generalize Qay lines=ml at*;generalize Qdv keys 24=mk at*;generalize Qdv loaded 16=mo at*;have len2:=hcv.len Zu7;have hcont:=Qv9 lv lines lcs hlc hlv f2;simp only[wA,↓Qc,simprocAttr,hm1,hm2,hm3,g12,g13,g14,g16,g17,rd3,Qr1,rd52,ta,wH]
   repeat' ((first|refine W.guardF ?_ ?_|refine W.guardT ?_ ?_|refine W.guardXF ?_ ?_|refine W.guardXT ?_ ?_|refine W.ite ?_ ?_|refine W.opsK1 (by kernel_rfl) ?_)<;>intro h<;>simp only[wA,↓Qc,simprocAttr,h,hm1,hm2,hm3,g12,g13,g14,g15,g16,g17,rd3,Qr1,rd52,Qzi,len2,ta,wH])
   all_goals first
    |(refine W.done (Zc.ret rfl rfl ?_)
      rw[<-hnb,hMB'];simp only[*,Yb,if_true,if_false]
      try rfl)
    |skip
   have hmb:mb=false:=by rw[hMB'];simp only[*,Zsi,Zqr]
   have hml:ml=true:=by first|assumption|(simp only[*])|simp_all
   rw[hmb,if_neg (by decide)] at hnb;clear hm1 hm2 hm3 hR hA hMB' len;refine W.ul ?_;refine W.loop (fun(i:Nat) t H=>∃F:AM.Frame,Jj [1,108,109,110] t 0=Qvb (.ptr 0 1 0) cv (.int .i64 changes.length) (.int .i64 i)/\i<=changes.length/\H=[F]/\(F=[(1,.cells pc)]\/∃x,F=[(1,.cells pc),(6,.cells x)])/\Qrw lines (before changes i) (changes.drop i)=Qrw lines none changes) (fun i=>changes.length-i) ?_ 0 ⟨_,rfl,by omega,rfl,.inl rfl,rfl⟩ rfl;clear h hi c1;rintro i t H ⟨F,ht,hi,rfl,hF,hR⟩;have hd:([F]:Heap).modify 0 (Jk fun s=>[6].contains s)=[[(1,.cells pc)]]:=by rcases hF with rfl|⟨x,rfl⟩<;>rfl
   have vr:cv.refs (fun f s=>f==0&&[6].contains s)=false:=hcv.noRefs _;refine⟨_,_,Zq (kt:=[1,108,109,110]) (ds:=[6]) rfl ?_ ?_,?_⟩
   . rw[ht];simp only[Qvb,Qh,V.refs,vr];simp
   . rw[hd];simp only[Zb,Q0,O.refs,gr];simp
   rw[ht,hd];simp only[Qvb];by_cases h:i<changes.length
   . have c1:decide ((i:Int)<changes.length)=true:=Zsw (by omega);have at1:=hcv.at (k:= .i64) Zu7 Qsq (by decide) (i:=(i:Int)) (by omega) (by omega);obtain⟨dv,hdv,ld⟩:=hcc.ld h;have sdv:dv.scalar=true:=by obtain⟨_,hq⟩:=hdv;exact Zo hq
     have ld1:∀g,ldV Tp 84 g (.iptr ccs ((i:Int).toNat*12))=_:=ld;have w1:(IntKind.i64).wrap ((i:Int)+1)=((i+1:Nat):Int):=by rw[wrap_i64]<;>omega
     have hS:Qrw lines (before changes i) (changes.drop i)=if(match Qad lines changes[i].set with|none=>true|some l=>l.kind !=1)||(!(Qc0 changes[i])||(match before changes i with|some q=>decide (Ql5 q changes[i]>=0)|none=>false)) then false else Qrw lines (before changes (i+1)) (changes.drop (i+1)):=by
      rw[Zsn h];have e:before changes (i+1)=some changes[i]:=by simp only[before,Zpk h]
      rw[e];rfl
     rw[hR] at hS;obtain⟨m,rfl,hm⟩:=(Qwq changes[i] dv hdv).op (by rfl) (Qa (Bk hdv) rfl);have hmc:∀s H,_:=fun s H=>hm 20 0 s H rfl;obtain⟨m,rfl,hm⟩:=(Qvc lv lines lcs hlc hlv (hl16 hml) changes[i].set).op (by rfl) (Qa (hlv.frz _) rfl);have hm1:∀s H,_:=fun s H=>hm 20 0 s H rfl;have hor:∀(q:Zv) (qv:V),Qm6 qv q.n->∀s H,callOp Qf (Qq Tp Qf) 20 0 s 44 [.agg (Qw q qv),.agg (Qw changes[i] dv)] H=some (.ret (.int .i64 (Ql5 q changes[i])),H):=fun q qv hqv s H=>by obtain⟨m,rfl,hm⟩:=(Zab q changes[i] qv dv hqv hdv).op (by rfl) (Qa (Bk hqv) (Qa (Bk hdv) rfl));exact hm 20 0 s H rfl
     generalize hnx:Qrw lines (before changes (i+1)) (changes.drop (i+1))=nx at hS;generalize hoi:Ql5=oi at*;generalize Qc0 changes[i]=mc at*;generalize hp:changes[i]=c at*;simp only[Qw] at ld1 hmc;cases hO:Qep lines c.set with
     |none=>
      have hLf:Qad lines c.set=none:=by simp only[Qad,hO]
      simp only[hO] at hm1;simp only[hLf,Bool.true_or,if_true] at hS;simp only[wX,↓Qc,simprocAttr,c1,at1,ld1,hm1,hmc,X7,Qci,Qcf,Qb3,g12,g15,rd3,rd5,Qr1,Qzi,sdv]
      repeat' ((first|refine W.guardF ?_ ?_|refine W.guardT ?_ ?_|refine W.guardXF ?_ ?_|refine W.guardXT ?_ ?_|refine W.ite ?_ ?_|refine W.opsK1 (by kernel_rfl) ?_)<;>intro h<;>simp only[wX,↓Qc,simprocAttr,h,c1,at1,ld1,hm1,hmc,X7,Qci,Qcf,Qb3,g12,g15,rd3,rd5,Qr1,Qzi,sdv])
      all_goals first
       |(refine W.done ?_
         simp only[wA,↓Qc,simprocAttr];refine W.done (Zc.ret rfl rfl ?_);rw[<-hnb,hS];simp only[*,Yb,if_true,if_false]
         try rfl)
       |(try simp only[wA,↓Qc,simprocAttr,w1,(rfl:(IntKind.i64).wrap 1=1)]
         refine W.done ⟨_,⟨_,rfl,by omega,rfl,.inr ⟨_,rfl⟩,?_⟩,by omega⟩;rw[hS,hnx];simp only[*,Yb,if_true,if_false]
         try rfl)
     |some j=>
      have hj:=Qms hO;obtain⟨j1,j2,j3,j4⟩:=hlc.cells hj;have hLf:Qad lines c.set=some lines[j]:=by simp only[Qad,hO,Zpk hj]
      simp only[hO] at hm1;simp only[hLf] at hS;generalize lines[j].kind=lk at*;cases i with
      |zero=>
       have c0:decide (((0:Nat):Int)>0)=false:=rfl;have hb0:before changes 0=none:=rfl;simp only[hb0] at hS;simp only[Qki,Qdc,Qc8,Zm,Q9,Yy,nov,gd,rho,Qs,wr,Nat.reduceAdd,Nat.reduceSub,if_true,if_false,reduceIte,reduceCtorEq,Nat.reduceLT,Nat.reduceEqDiff,Nat.reduceMul,Nat.reduceLeDiff,Qh1,Int.reduceBEq,Int.reduceBNe,Int.reduceLT,Int.reduceLE,↓Qc,c0,j2,c1,at1,ld1,hm1,hmc,X7,Qci,Qcf,Qb3,g12,g15,rd3,rd5,Qr1,Qzi,sdv,ta,wH,wB]
       repeat' ((first|refine W.guardF ?_ ?_|refine W.guardT ?_ ?_|refine W.guardXF ?_ ?_|refine W.guardXT ?_ ?_|refine W.ite ?_ ?_|refine W.opsK1 (by kernel_rfl) ?_)<;>intro h<;>simp only[wX,↓Qc,simprocAttr,h,c0,j2,c1,at1,ld1,hm1,hmc,X7,Qci,Qcf,Qb3,g12,g15,rd3,rd5,Qr1,Qzi,sdv])
       all_goals first
        |(refine W.done ?_
          simp only[wA,↓Qc,simprocAttr];refine W.done (Zc.ret rfl rfl ?_);rw[<-hnb,hS];simp only[*,Yb,if_true,if_false]
          try rfl)
        |(try simp only[wA,↓Qc,simprocAttr,w1,(rfl:(IntKind.i64).wrap 1=1)]
          refine W.done ⟨0+1,⟨_,rfl,by omega,rfl,.inr ⟨_,rfl⟩,?_⟩,by omega⟩;rw[hS,hnx];simp only[*,Yb,if_true,if_false]
          try rfl)
      |succ k=>
       have c0:decide (((k+1:Nat):Int)>0)=true:=Zsw (by omega);have wk:(IntKind.i64).wrap (((k+1:Nat):Int)-1)=((k:Nat):Int):=by rw[wrap_i64]<;>omega
       have hk:k<changes.length:=by omega
       have at2:=hcv.at (k:= .i64) Zu7 Qsq (by decide) (i:=(k:Int)) (by omega) (by omega);obtain⟨qv,hqv,ldq⟩:=hcc.ld hk;have ld2:∀g,ldV Tp 84 g (.iptr ccs ((k:Int).toNat*12))=_:=ldq;have hmo:=hor _ qv hqv;have hb:before changes (k+1)=some changes[k]:=by simp only[before,Zpk hk]
       simp only[hb] at hS;simp only[Qw] at ld2 hmo;simp only[wX,↓Qc,simprocAttr,c0,j2,c1,at1,ld1,hm1,hmc,X7,Qci,Qcf,Qb3,g12,g15,rd3,rd5,Qr1,Qzi,sdv]
       repeat' ((first|refine W.guardF ?_ ?_|refine W.guardT ?_ ?_|refine W.guardXF ?_ ?_|refine W.guardXT ?_ ?_|refine W.ite ?_ ?_|refine W.opsK1 (by kernel_rfl) ?_)<;>intro h<;>simp only[wX,↓Qc,simprocAttr,h,c0,wk,at2,ld2,hmo,j2,c1,at1,ld1,hm1,hmc,X7,Qci,Qcf,Qb3,g12,g15,rd3,rd5,Qr1,Qzi,sdv])
       all_goals first
        |(refine W.done ?_
          simp only[wA,↓Qc,simprocAttr];refine W.done (Zc.ret rfl rfl ?_);rw[<-hnb,hS];simp only[*,Yb,if_true,if_false]
          try rfl)
        |(try simp only[wA,↓Qc,simprocAttr,w1,(rfl:(IntKind.i64).wrap 1=1)]
          refine W.done ⟨_,⟨_,rfl,by omega,rfl,.inr ⟨_,rfl⟩,?_⟩,by omega⟩;rw[hS,hnx];simp only[*,Yb,if_true,if_false]
          try rfl)
   . have c1:decide ((i:Int)<changes.length)=false:=Zsx (by omega);have hC:Qrw lines none changes=true:=by
      rw[<-hR,Zrz (by omega)];cases hb:before changes i<;>rfl
     rw[hC,if_pos rfl] at hnb;simp only[wA,↓Qc,simprocAttr,c1];refine W.done ?_;obtain⟨r,H',e1,e2,rfl⟩:=hcont [(1,.cells pc)] pc (by simp only[Q0,O.refs,gr];rfl) rfl gl nid ng g17 g18;subst e2;have hcall:∀d,callOp Qf (Qq Tp Qf) 20 0 d 45 [lv,.func (.func 46) [] [.ptr 0 1 0]] [[(1,.cells pc)]]=_:=fun d=>Xs rfl rfl rfl e1;simp only[wA,↓Qc,simprocAttr,g12,Qr1,ta,wH,hcall];refine W.ite ?_ ?_<;>intro h2<;>simp only[wA,↓Qc,simprocAttr,ta,wH]
     . refine W.done (Zc.ret rfl rfl ?_);rw[<-hnb,h2];rfl
     . refine W.done (Zc.ret rfl rfl ?_);rw[<-hnb,h2];rfl
end Go.Proofs.YtpdimkonjmoadaaGreatDoor
namespace Go.Proofs.YtpdimkonjmoadaaGreatDoor
open Go.AM
attribute [local irreducible] U W
abbrev dOf(x:Yj):Int:=okE (Qo9 x.blocks x.waits)
abbrev Qav(x:Yj):Bool:=Q2j (dOf x) (Qbg x.space) (Qis x.space) x.p
theorem Zr.toI{cv:V}{x:Yj}(h:∃cs,Zr cs x.p.changes x.datas/\Qv 12 cv cs x.p.changes.length):Qt2 cv x.p.changes:=by obtain⟨cs,h1,h2⟩:=h;exact⟨cs,h1.toC,h2⟩
section
variable {bv wv sv mv lv kv ov cv : V} {x : Yj}
theorem Qd2(h:Yh bv wv sv mv lv kv ov cv x)(f:x.Fits):Qf5 bv wv sv x.blocks x.waits x.space:=⟨h.blocks,h.waits,h.space,f.blocks,f.waits,f.wat⟩
theorem toPool(h:Yh bv wv sv mv lv kv ov cv x)(f:x.Fits):Q7f bv wv sv mv lv kv ov cv (dOf x) x.space x.p:=by obtain⟨bcs,hbc,hbv⟩:=id h.blocks;obtain⟨wcs,hwc,hwv⟩:=id h.waits;exact⟨Qz7 bv wv _ _ h.blocks h.waits f.blocks f.waits,Qgv h.blocks h.waits _,fun g m=>⟨hbv.frz _,hwv.frz _⟩,fun q=>⟨hbv.noRefs _,hwv.noRefs _⟩,Zo hbv,Zo hwv,h.space,h.own,h.lines,h.keys,h.loaded,Zr.toI h.changes,f.own,f.lines,f.changes,f.keys,f.loaded,f.keyl,f.loadedl⟩
theorem Q61(h:Yh bv wv sv mv lv kv ov cv x)(f:x.Fits):Fz Tp Qf 20 [.agg (Qy bv wv sv mv lv kv ov cv x.p)] fun r=>r= .int .i64 (okE (Qav x)):=Za2 (toPool h f)
end
end Go.Proofs.YtpdimkonjmoadaaGreatDoor
namespace Go.Proofs.YtpdimkonjmoadaaGreatDoor
open Go.AM
attribute [local irreducible] U W
section
variable {bv wv sv mv lv kv ov cv : V} {x : Yj}
theorem Qe0(h:Yh bv wv sv mv lv kv ov cv x)(g:Get):frz g depth (.agg (Qy bv wv sv mv lv kv ov cv x.p))=some (.agg (Qy bv wv sv mv lv kv ov cv x.p)):=by
 obtain⟨_,_,h1⟩:=h.blocks;obtain⟨_,_,h2⟩:=h.waits;obtain⟨_,_,h5⟩:=h.lines;obtain⟨_,_,h6⟩:=h.keys;obtain⟨_,_,h7⟩:=h.loaded;obtain⟨_,_,h8⟩:=h.changes;show Option.map V.agg (Qx (AM.frz _ 11) (Qy bv wv sv mv lv kv ov cv x.p))=_;have e:Qx (AM.frz g 11) (Qy bv wv sv mv lv kv ov cv x.p)=some (Qy bv wv sv mv lv kv ov cv x.p):=by
  simp only[Qy]
  repeat' (first|refine Qa rfl ?_|refine Qa (h1.frz 10) ?_|refine Qa (h2.frz 10) ?_|refine Qa (h.space.frz 10) ?_|refine Qa (Qv.frz h.own 10) ?_|refine Qa (h5.frz 10) ?_|refine Qa (h6.frz 10) ?_|refine Qa (h7.frz 10) ?_|refine Qa (h8.frz 10) ?_|rfl)
 rw[e];rfl
theorem Qbr(h:Yh bv wv sv mv lv kv ov cv x):bv.scalar=true/\wv.scalar=true/\sv.scalar=true/\mv.scalar=true/\lv.scalar=true/\kv.scalar=true/\ov.scalar=true/\cv.scalar=true:=by obtain⟨_,_,h1⟩:=h.blocks;obtain⟨_,_,h2⟩:=h.waits;obtain⟨_,_,h5⟩:=h.lines;obtain⟨_,_,h6⟩:=h.keys;obtain⟨_,_,h7⟩:=h.loaded;obtain⟨_,_,h8⟩:=h.changes;exact⟨Zo h1,Zo h2,Zo h.space,Zo h.own,Zo h5,Zo h6,Zo h7,Zo h8⟩
end
end Go.Proofs.YtpdimkonjmoadaaGreatDoor
namespace Go.Proofs.YtpdimkonjmoadaaGreatDoor
open Go.AM
attribute [local irreducible] U W
set_option maxHeartbeats 4000000 in
theorem Q45(bv wv:V)(bl:List (List UInt8))(wl:List (Int×List UInt8))(hb:Kf bv bl)(hw:Xh wv wl)(b1:bl.length<=Xc)(w1:wl.length<=Xc):Fz Tp Qf 37 [.agg [bv,wv]] fun x=>∃b,x= .bool b:=by
 refine Zp Tryz.func37 rfl ?_;have b1' :bl.length<=9223372036854775807:=b1;have w1' :wl.length<=9223372036854775807:=w1;obtain⟨bcs,hbc,hbv⟩:=hb;obtain⟨wcs,hwc,hwv⟩:=hw;have lb:=hbv.len Zu1;have lw:=hwv.len Zu4;have bsc:bv.scalar=true:=Zo hbv;have wsc:wv.scalar=true:=Zo hwv;simp only[wX,↓Qc,simprocAttr,Tryz.ntmps37,wsc,bsc,lw,lb]
 repeat' ((first|refine W.guardF ?_ ?_|refine W.guardT ?_ ?_|refine W.guardXF ?_ ?_|refine W.guardXT ?_ ?_|refine W.ite ?_ ?_|refine W.opsK1 (by kernel_rfl) ?_)<;>intro h<;>simp only[wX,↓Qc,simprocAttr,h,wsc,bsc,lw,lb])
 all_goals first
  |exact W.done (Zc.ret rfl rfl ⟨_,rfl⟩)
  |skip
 all_goals
  refine W.ul ?_;refine W.loop (fun(i:Nat) t H=>∃n:Int,Jj [1,3,4] t 0=Q9e (.ptr 0 1 0) (.int .i64 n) (.int .i64 i)/\i<=bl.length/\H=[[(1,.cells [bv,wv])]]) (fun i=>bl.length-i) ?_ 0 ⟨0,rfl,Zr9 _,rfl⟩;rintro i t H ⟨n,ht,hi,rfl⟩;refine⟨_,_,Jl (kt:=[1,3,4]) rfl rfl,?_⟩;rw[ht];simp only[Q9e];by_cases h:i<bl.length
  case pos=>
   have c1:decide ((i:Int)<bl.length)=true:=Zsw (by omega);have wi:(IntKind.i64).wrap ((i:Int)+1)=((i+1:Nat):Int):=by rw[wrap_i64]<;>omega
   obtain⟨v,h1,hv⟩:=hbc.at_ h;have g1:bcs[(i:Int).toNat*1]?=some v:=by simpa using h1
   have g2:bcs[(i:Int).toNat]?=some v:=by simpa using h1
   have lv:=hv.len Zu0;have at1:=hbv.at (k:= .i64) Zu1 Qah (by decide) (i:=(i:Int)) (by omega) (by omega);cases c2:decide (n<2000000)
   case true=>simp only[wX,↓Qc,simprocAttr,c1,c2,at1,g1,g2,lv,wi,lb,bsc,wsc];exact W.done ⟨i+1,⟨_,rfl,by omega,rfl⟩,by omega⟩
   simp only[wX,↓Qc,simprocAttr,c1,c2,lb,bsc,wsc];refine W.done ?_;simp only[wX,↓Qc,simprocAttr,lw,lb,bsc,wsc];refine W.ul ?_;refine W.loop (fun(j:Nat) t H=>∃n:Int,Jj [1,3,5] t 0=Qvp (.ptr 0 1 0) (.int .i64 n) (.int .i64 j)/\j<=wl.length/\H=[[(1,.cells [bv,wv])]]) (fun j=>wl.length-j) ?_ 0 ⟨_,rfl,Zr9 _,rfl⟩;rintro j t2 H2 ⟨n2,ht2,hj,rfl⟩;refine⟨_,_,Jl (kt:=[1,3,5]) rfl rfl,?_⟩;rw[ht2];simp only[Qvp];rcases Classical.em (j<wl.length) with h2|h2
   . have d1:decide ((j:Int)<wl.length)=true:=Zsw (by omega);have wj:(IntKind.i64).wrap ((j:Int)+1)=((j+1:Nat):Int):=by rw[wrap_i64]<;>omega
     obtain⟨_,v2,e2,hv2⟩:=hwc.at_ h2;have g3:wcs[(j:Int).toNat*2+1]?=some v2:=by rw[show(j:Int).toNat*2+1=2*j+1 by omega];exact e2
     have lv2:=hv2.len Zu0;have at2:=hwv.at (k:= .i64) Zu4 Qdq (by decide) (i:=(j:Int)) (by omega) (by omega);cases d2:decide (n2<2000000)
     . simp only[wX,↓Qc,simprocAttr,d1,d2,lw,bsc,wsc];refine W.done ?_;simp only[wX,↓Qc,simprocAttr];exact W.done (Zc.ret rfl rfl ⟨_,rfl⟩)
     . simp only[wX,↓Qc,simprocAttr,d1,d2,at2,g3,lv2,wj,lw,bsc,wsc];exact W.done ⟨j+1,⟨_,rfl,by omega,rfl⟩,by omega⟩
   . have d1:decide ((j:Int)<wl.length)=false:=Zsx (by omega);simp only[wX,↓Qc,simprocAttr,d1,lw,bsc,wsc];refine W.done ?_;simp only[wX,↓Qc,simprocAttr];exact W.done (Zc.ret rfl rfl ⟨_,rfl⟩)
  case neg=>
   have c1:decide ((i:Int)<bl.length)=false:=Zsx (by omega);simp only[wX,↓Qc,simprocAttr,c1,lb,bsc,wsc];refine W.done ?_;simp only[wX,↓Qc,simprocAttr,lw,lb,bsc,wsc];refine W.ul ?_;refine W.loop (fun(j:Nat) t H=>∃n:Int,Jj [1,3,5] t 0=Qvp (.ptr 0 1 0) (.int .i64 n) (.int .i64 j)/\j<=wl.length/\H=[[(1,.cells [bv,wv])]]) (fun j=>wl.length-j) ?_ 0 ⟨_,rfl,Zr9 _,rfl⟩;rintro j t2 H2 ⟨n2,ht2,hj,rfl⟩;refine⟨_,_,Jl (kt:=[1,3,5]) rfl rfl,?_⟩;rw[ht2];simp only[Qvp];rcases Classical.em (j<wl.length) with h2|h2
   . have d1:decide ((j:Int)<wl.length)=true:=Zsw (by omega);have wj:(IntKind.i64).wrap ((j:Int)+1)=((j+1:Nat):Int):=by rw[wrap_i64]<;>omega
     obtain⟨_,v2,e2,hv2⟩:=hwc.at_ h2;have g3:wcs[(j:Int).toNat*2+1]?=some v2:=by rw[show(j:Int).toNat*2+1=2*j+1 by omega];exact e2
     have lv2:=hv2.len Zu0;have at2:=hwv.at (k:= .i64) Zu4 Qdq (by decide) (i:=(j:Int)) (by omega) (by omega);cases d2:decide (n2<2000000)
     . simp only[wX,↓Qc,simprocAttr,d1,d2,lw,bsc,wsc];refine W.done ?_;simp only[wX,↓Qc,simprocAttr];exact W.done (Zc.ret rfl rfl ⟨_,rfl⟩)
     . simp only[wX,↓Qc,simprocAttr,d1,d2,at2,g3,lv2,wj,lw,bsc,wsc];exact W.done ⟨j+1,⟨_,rfl,by omega,rfl⟩,by omega⟩
   . have d1:decide ((j:Int)<wl.length)=false:=Zsx (by omega);simp only[wX,↓Qc,simprocAttr,d1,lw,bsc,wsc];refine W.done ?_;simp only[wX,↓Qc,simprocAttr];exact W.done (Zc.ret rfl rfl ⟨_,rfl⟩)
theorem Q06{bv wv sv:V}{bl wl sp}(h:Qf5 bv wv sv bl wl sp)(e c:Int):Fz Tp Qf 19 [Qda bv wv sv e c] fun x=>∃b,x= .bool b:=by
 refine Zp Tryz.func19 rfl ?_;obtain⟨m,⟨g,rfl⟩,hm⟩:=(Q45 bv wv bl wl h.blocks h.waits h.b1 h.w1).op (by rfl) (Qa (Qgv h.blocks h.waits _) rfl);have hm1:∀s H,_:=fun s H=>hm 19 0 s H rfl;obtain⟨_,_,h1⟩:=id h.blocks;obtain⟨_,_,h2⟩:=id h.waits;have sb:=Zo h1;have sw:=Zo h2;have ss:=Zo h.space;have ls:=h.space.len Zu0;cases g
 all_goals
  simp only[wX,↓Qc,simprocAttr,Tryz.ntmps19,sb,sw,ss,ls,hm1]
  repeat' ((first|refine W.guardF ?_ ?_|refine W.guardT ?_ ?_|refine W.guardXF ?_ ?_|refine W.guardXT ?_ ?_|refine W.ite ?_ ?_|refine W.opsK1 (by kernel_rfl) ?_)<;>intro h<;>simp only[wX,↓Qc,simprocAttr,h,sb,sw,ss,ls,hm1])
  all_goals exact W.done (Zc.ret rfl rfl ⟨_,rfl⟩)
section
variable {bv wv sv mv lv kv ov cv : V} {x : Yj}
set_option maxHeartbeats 8000000 in
theorem Q11(h:Yh bv wv sv mv lv kv ov cv x)(f:x.Fits):Fz Tp Qf 10 [.agg (Qy bv wv sv mv lv kv ov cv x.p)] fun r=>∃b,r= .bool b:=by
 refine Zp Tryz.func10 rfl ?_;obtain⟨m,⟨g,rfl⟩,hm⟩:=(Q06 (Qd2 h f) x.p.epoch x.p.count).op (by rfl) (Qa (Qe5 (Qd2 h f) _ _ _) rfl);have hm1:∀s H,_:=fun s H=>hm 10 0 s H rfl;obtain⟨s1,s2,s3,s4,s5,s6,s7,s8⟩:=Qbr h;obtain⟨lcs,hlcs,hlv⟩:=id h.lines;obtain⟨kcs,hkcs,hkv⟩:=id h.keys;obtain⟨ocs,hocs,hov⟩:=id h.loaded;obtain⟨ccs,hccs,hcv⟩:=id h.changes;have f1:x.p.lines.length<=9223372036854775807:=f.lines;have f2:x.p.changes.length<=9223372036854775807:=f.changes;have f3:x.p.keys.length<=9223372036854775807:=f.keys;have f4:x.p.loaded.length<=9223372036854775807:=f.loaded;have lm:=h.own.len Zu2;have ll:=hlv.len Zu5;have lk:=hkv.len Zu1;have lo:=hov.len Zu1;have lc:=hcv.len Zu7;have bm:∀mt fr g d ts a b,builtinV Tp mt fr g d .min ts [.int .i64 a,.int .i64 b]=some (.val (.int .i64 (if b<a then b else a)) none):=fun _ _ _ _ _ _ _=>rfl;have q256:∀u v a,Zj Tp .quo 3 u v (.int .i64 a) (.int .i64 256)=some (.int .i64 ((IntKind.i64).wrap (a.tdiv 256))):=fun _ _ _=>rfl;have q24:∀u v a,Zj Tp .quo 3 u v (.int .i64 a) (.int .i64 24)=some (.int .i64 ((IntKind.i64).wrap (a.tdiv 24))):=fun _ _ _=>rfl;have q16:∀u v a,Zj Tp .quo 3 u v (.int .i64 a) (.int .i64 16)=some (.int .i64 ((IntKind.i64).wrap (a.tdiv 16))):=fun _ _ _=>rfl;have chd:∀i:Nat,i<x.p.changes.length->∃(dv:V) (k:Nat),ccs[(i:Int).toNat*12+6]?=some dv/\∀g,B0 Tp g 23 dv=some (.int .i64 k):=by intro i hi;obtain⟨dv,k,h1,h2,_⟩:=hccs.at_ hi;refine⟨dv,k.length,?_,fun g=>h2.len Zu0 g⟩;have:=congrArg (fun l=>l[6]?) h1;simp only[Zpx,Zq6,Qw] at this;rw[show(i:Int).toNat*12+6=i*12+6 by omega];simpa using this
 simp only[Qy,Qda] at hm1⊢;cases g
 all_goals
  simp only[wX,↓Qc,simprocAttr,Tryz.ntmps10,hm1,s1,s2,s3,s4,s5,s6,s7,s8,lm,ll,lk,lo,lc]
  repeat' ((first|refine W.guardF ?_ ?_|refine W.guardT ?_ ?_|refine W.guardXF ?_ ?_|refine W.guardXT ?_ ?_|refine W.ite ?_ ?_|refine W.opsK1 (by kernel_rfl) ?_)<;>intro h<;>simp only[wX,↓Qc,simprocAttr,h,hm1,s1,s2,s3,s4,s5,s6,s7,s8,lm,ll,lk,lo,lc])
 all_goals first
  |exact W.done (Zc.ret rfl rfl ⟨_,rfl⟩)
  |skip
 all_goals
  refine W.ul ?_;refine W.loop (fun(i:Nat) t H=>∃n:Int,Jj [1,3,4] t 0=Q9m (.ptr 0 1 0) (.int .i64 n) (.int .i64 i)/\i<=x.p.lines.length/\H=[[(1,.cells (Qy bv wv sv mv lv kv ov cv x.p))]]) (fun i=>x.p.lines.length-i) ?_ 0 ⟨_,rfl,Zr9 _,rfl⟩;rintro i t H ⟨n,ht,hi,rfl⟩;refine⟨_,_,Jl (kt:=[1,3,4]) rfl rfl,?_⟩;rw[ht];simp only[Q9m,Qy];have key:i<x.p.lines.length\/¬i<x.p.lines.length:=Classical.em _;rcases key with h0|h0
  . have c1:decide ((i:Int)<x.p.lines.length)=true:=Zsw (by omega);have wi:(IntKind.i64).wrap ((i:Int)+1)=((i+1:Nat):Int):=by rw[wrap_i64]<;>omega
    obtain⟨dv,hd1,hd2⟩:=hlcs.at_ (Zpk h0);have g1:lcs[(i:Int).toNat*13+12]?=some dv:=by have:=congrArg (fun l=>l[12]?) hd1;simp only[Zpx,Zq6,Ja] at this;rw[show(i:Int).toNat*13+12=i*13+12 by omega];simpa using this
    have ld:=hd2.len Zu8;have at1:=hlv.at (k:= .i64) Zu5 Qjg (by decide) (i:=(i:Int)) (by omega) (by omega);simp only[wX,↓Qc,simprocAttr,c1,wi,at1,g1,ld,bm,q256,q24,q16,s1,s2,s3,s4,s5,s6,s7,s8,ll,lk,lo,lc];exact W.done ⟨i+1,⟨_,rfl,by omega,rfl⟩,by omega⟩
  have c1:decide ((i:Int)<x.p.lines.length)=false:=Zsx (by omega);simp only[wX,↓Qc,simprocAttr,c1,s1,s2,s3,s4,s5,s6,s7,s8,ll,lk,lo,lc];clear hi h0 c1 ht;refine W.done ?_;simp only[wX,↓Qc,simprocAttr,s1,s2,s3,s4,s5,s6,s7,s8,ll,lk,lo,lc];refine W.ul ?_;refine W.loop (fun(i:Nat) t H=>∃n:Int,Jj [1,3,5] t 0=Q7h (.ptr 0 1 0) (.int .i64 n) (.int .i64 i)/\i<=x.p.changes.length/\H=[[(1,.cells (Qy bv wv sv mv lv kv ov cv x.p))]]) (fun i=>x.p.changes.length-i) ?_ 0 ⟨_,rfl,Zr9 _,rfl⟩;rintro i t H ⟨n,ht,hi,rfl⟩;refine⟨_,_,Jl (kt:=[1,3,5]) rfl rfl,?_⟩;rw[ht];simp only[Q7h,Qy];have key:i<x.p.changes.length\/¬i<x.p.changes.length:=Classical.em _;rcases key with h0|h0
  . have c1:decide ((i:Int)<x.p.changes.length)=true:=Zsw (by omega);have wi:(IntKind.i64).wrap ((i:Int)+1)=((i+1:Nat):Int):=by rw[wrap_i64]<;>omega
    obtain⟨dv,k,hd,hl⟩:=chd i h0;have ld:=fun g=>hl g;have at1:=hcv.at (k:= .i64) Zu7 Qsq (by decide) (i:=(i:Int)) (by omega) (by omega);simp only[wX,↓Qc,simprocAttr,c1,wi,at1,hd,ld,bm,q256,q24,q16,s1,s2,s3,s4,s5,s6,s7,s8,ll,lk,lo,lc];exact W.done ⟨i+1,⟨_,rfl,by omega,rfl⟩,by omega⟩
  have c1:decide ((i:Int)<x.p.changes.length)=false:=Zsx (by omega);simp only[wX,↓Qc,simprocAttr,c1,s1,s2,s3,s4,s5,s6,s7,s8,ll,lk,lo,lc];clear hi h0 c1 ht;refine W.done ?_;simp only[wX,↓Qc,simprocAttr,s1,s2,s3,s4,s5,s6,s7,s8,ll,lk,lo,lc];refine W.ul ?_;refine W.loop (fun(i:Nat) t H=>∃n:Int,Jj [1,3,6] t 0=Q4a (.ptr 0 1 0) (.int .i64 n) (.int .i64 i)/\i<=x.p.keys.length/\H=[[(1,.cells (Qy bv wv sv mv lv kv ov cv x.p))]]) (fun i=>x.p.keys.length-i) ?_ 0 ⟨_,rfl,Zr9 _,rfl⟩;rintro i t H ⟨n,ht,hi,rfl⟩;refine⟨_,_,Jl (kt:=[1,3,6]) rfl rfl,?_⟩;rw[ht];simp only[Q4a,Qy];have key:i<x.p.keys.length\/¬i<x.p.keys.length:=Classical.em _;rcases key with h0|h0
  . have c1:decide ((i:Int)<x.p.keys.length)=true:=Zsw (by omega);have wi:(IntKind.i64).wrap ((i:Int)+1)=((i+1:Nat):Int):=by rw[wrap_i64]<;>omega
    obtain⟨v,h1,hv⟩:=hkcs.at_ h0;have g1:kcs[(i:Int).toNat*1]?=some v:=by simpa using h1
    have g2:kcs[(i:Int).toNat]?=some v:=by simpa using h1
    have lv:=hv.len Zu0;have at1:=hkv.at (k:= .i64) Zu1 Qah (by decide) (i:=(i:Int)) (by omega) (by omega);simp only[wX,↓Qc,simprocAttr,c1,wi,at1,g1,g2,lv,bm,q256,q24,q16,s1,s2,s3,s4,s5,s6,s7,s8,ll,lk,lo,lc];exact W.done ⟨i+1,⟨_,rfl,by omega,rfl⟩,by omega⟩
  have c1:decide ((i:Int)<x.p.keys.length)=false:=Zsx (by omega);simp only[wX,↓Qc,simprocAttr,c1,s1,s2,s3,s4,s5,s6,s7,s8,ll,lk,lo,lc];clear hi h0 c1 ht;refine W.done ?_;simp only[wX,↓Qc,simprocAttr,s1,s2,s3,s4,s5,s6,s7,s8,ll,lk,lo,lc];refine W.ul ?_;refine W.loop (fun(i:Nat) t H=>∃n:Int,Jj [1,3,7] t 0=Q29 (.ptr 0 1 0) (.int .i64 n) (.int .i64 i)/\i<=x.p.loaded.length/\H=[[(1,.cells (Qy bv wv sv mv lv kv ov cv x.p))]]) (fun i=>x.p.loaded.length-i) ?_ 0 ⟨_,rfl,Zr9 _,rfl⟩;rintro i t H ⟨n,ht,hi,rfl⟩;refine⟨_,_,Jl (kt:=[1,3,7]) rfl rfl,?_⟩;rw[ht];simp only[Q29,Qy];have key:i<x.p.loaded.length\/¬i<x.p.loaded.length:=Classical.em _;rcases key with h0|h0
  . have c1:decide ((i:Int)<x.p.loaded.length)=true:=Zsw (by omega);have wi:(IntKind.i64).wrap ((i:Int)+1)=((i+1:Nat):Int):=by rw[wrap_i64]<;>omega
    obtain⟨v,h1,hv⟩:=hocs.at_ h0;have g1:ocs[(i:Int).toNat*1]?=some v:=by simpa using h1
    have g2:ocs[(i:Int).toNat]?=some v:=by simpa using h1
    have lv:=hv.len Zu0;have at1:=hov.at (k:= .i64) Zu1 Qah (by decide) (i:=(i:Int)) (by omega) (by omega);simp only[wX,↓Qc,simprocAttr,c1,wi,at1,g1,g2,lv,bm,q256,q24,q16,s1,s2,s3,s4,s5,s6,s7,s8,ll,lk,lo,lc];exact W.done ⟨i+1,⟨_,rfl,by omega,rfl⟩,by omega⟩
  have c1:decide ((i:Int)<x.p.loaded.length)=false:=Zsx (by omega);simp only[wX,↓Qc,simprocAttr,c1,s1,s2,s3,s4,s5,s6,s7,s8,ll,lk,lo,lc];clear hi h0 c1 ht;refine W.done ?_;simp only[wX,↓Qc,simprocAttr,s1,s2,s3,s4,s5,s6,s7,s8,ll,lk,lo,lc];exact W.done (Zc.ret rfl rfl ⟨_,rfl⟩)
end
end Go.Proofs.YtpdimkonjmoadaaGreatDoor
namespace Go.Proofs.YtpdimkonjmoadaaGreatDoor
open Go.AM
attribute [local irreducible] U W
end Go.Proofs.YtpdimkonjmoadaaGreatDoor
namespace Go.Proofs.YtpdimkonjmoadaaGreatDoor
open Go.AM
attribute [local irreducible] U W
end Go.Proofs.YtpdimkonjmoadaaGreatDoor
namespace Go.Proofs.YtpdimkonjmoadaaGreatDoor
open Go.AM
attribute [local irreducible] U W
theorem Qmo:∀l:List Ka,(Y6 l).all Qi6=true
 |[]=>rfl
 |p::l=>by
  have e:Y6 (p::l)=p.cells++Y6 l:=rfl;rw[e,Zr0,Qmo l];rfl
theorem Ql3:∀{c:List V},c.all Qi6=true->Qo c=true
 |[],_=>rfl
 |x::c,h=>by
  simp only[Zr7,Zqf] at h;have hx:x.pure=true:=by cases x<;>first|rfl|(cases h.1)
  simp only[Qo,hx,Ql3 h.2,Zrw]
theorem byP:byt Tp 60=some 24:=by kernel_rfl
end Go.Proofs.YtpdimkonjmoadaaGreatDoor
namespace Go.Proofs.YtpdimkonjmoadaaGreatDoor
open Go.AM
attribute [local irreducible] U W
theorem Ko{esz n:Nat}{v:V}{cells:List V}(h:Qv esz v cells n):v.cells=some [v]:=by obtain⟨_,⟨rfl,_⟩|⟨f,rfl⟩⟩:=h<;>rfl
end Go.Proofs.YtpdimkonjmoadaaGreatDoor
namespace Go.Proofs.YtpdimkonjmoadaaGreatDoor
open Go.AM
attribute [local irreducible] U W
theorem Q5m{α β:Type}(g:α->β)(d:α):∀l:List α,(List.range l.length).map (fun j=>g (l.getD j d))=l.map g:=by
 intro l;apply Zqz;intro i;by_cases hi:i<l.length
 . simp only[Zsd,List.getElem?_range hi,Zpl,Zsp,Zpk hi,Zqs]
 . rw[Zpn (by simp;omega),Zpn (by simp;omega)]
theorem Qo3:∀{l:List (Int×List UInt8)} {cs:List V} {w:Int×List UInt8} {v:V},Qaj cs l->Qk v w.2->Qaj (cs++[.int .i64 w.1,v]) (l++[w])
 |[],cs,w,v,h,hv=>by
  have:cs=[]:=h;subst this;exact⟨v,[],rfl,hv,rfl⟩
 |x::l,cs,w,v,⟨u,d,e,h1,h2⟩,hv=>by
  subst e;exact⟨u,d++[.int .i64 w.1,v],rfl,h1,Qo3 h2 hv⟩
structure DiskParts(bv wv:V)(bl:List (List UInt8))(wl:List (Int×List UInt8))(bcs wcs:List V)(fl:Bool)(a:Nat->Int)(d:Nat->List V):Prop where
 ebv:bv= .iS bcs 256 fl
 nbl:bl.length=256
 nbc:bcs.length=256
 nwl:wl.length<=4096
 len:∀r∈bl,r.length=256
 hr:∀i,i<256->∃f,bcs[i]?=some (.iS (Qb (bl.getD i [])) 256 f)
 row:∀i,i<256->J1 (Qb (bl.getD i []))
 hv:Qv 2 wv wcs wl.length
 wait:∀j,j<wl.length->wcs[2*j]?=some (.int .i64 (a j))/\∃fl,wcs[2*j+1]?=some (.iS (d j) 256 fl)
 data:∀j,j<wl.length->J1 (d j)
 ad:∀j,(h:j<wl.length)->a j=wl[j].1/\d j=Qb wl[j].2/\wl[j].2.length=256
theorem Qfc(v:V)(l:List UInt8)(hv:Qk v l)(hl:l.length<=1100000):Fz Tp Qf 52 [v] fun r=>Qk r l:=by
 refine Zp Tryz.func52 rfl ?_;obtain⟨hlen,⟨rfl,h0⟩|⟨f,rfl⟩⟩:=id hv
 . have h0:l=[]:=Zqh h0;subst h0;have e:∀p q,Zj Tp .eql 23 p q .nS .nS=some (.bool true):=fun p q=>rfl;simp only[wX,↓Qc,simprocAttr,Tryz.ntmps52,e];exact W.done (Zc.ret rfl rfl Qk.nil)
 . have sc:∀g,Qj g 1 (.iS (Qb l) l.length f)=some (Qb l,l.length):=fun g=>Qv.sc hv;have mt5:Qf.mt 52 5=true:=rfl;have mt7:Qf.mt 52 7=true:=rfl;have g5:Qd [[(5,O.cells [])]] 0 5=some (.cells []):=rfl;by_cases h0:l=[]
   . subst h0;have ap:Qp Tp (Qf.mt 52) 0 (Qd [[(5,O.cells [])]]) (some 7) 23 23 (.mS 0 5 0 0 (some 0) 1) (.iS (Qb []) 0 f)=some (.val (.mS 0 5 0 0 (some 0) 1) none):=
      Qfd Zu0 sz5 by8 zc5 rfl Zu0 rfl (sc _)
     simp only[wX,↓Qc,simprocAttr,Tryz.ntmps52,Je Zu0,mt5,Q3,ap,Zu0,Zq4];exact W.done (Zc.ret (v:= .mS 0 5 0 0 (some 0) 1) (v' := .iS [] 0 true) rfl rfl (Qv.mk (cells:=[]) rfl))
   . have n7:Qd [[(5,O.cells [])]] 0 7=none:=rfl;have ap:Qp Tp (Qf.mt 52) 0 (Qd [[(5,O.cells [])]]) (some 7) 23 23 (.mS 0 5 0 0 (some 0) 1) (.iS (Qb l) l.length f)=some (.val (.mS 0 7 0 l.length none 1) (some (0,7,.cells (Qb l)))):=by
      have hp:0<l.length:=List.length_pos_iff.2 h0;have zl:zeroCells Tp 5=some _:=zc5;have gm:=Qez (mt:=Qf.mt 52) (g:=Qd [[(5,O.cells [])]]) (fr:=0) (d:=7) (cs:=Qb l) (m:=l.length) (n:=1) (chk:=Qb l) mt7 (Z5 l) n7;generalize Qb l=cs at*;generalize l.length=n at*;obtain⟨m,rfl⟩:∃m,n=m+1:=⟨n-1,by omega⟩;have r1:J6 (m+1) 1=true:=Jg (by omega) (by omega);simp only[Qp,Zu0,sz5,by8,zl,Jp,sc,appendTo,g5];simpa [r1] using gm
     simp only[wX,↓Qc,simprocAttr,Tryz.ntmps52,Je Zu0,mt5,Q3,ap,Zu0];refine W.done (Zc.ret (v:= .mS 0 7 0 l.length none 1) (v' := .iS (Qb l) l.length false) rfl ?_ (Qk.mk l false));have e:((Qb l).drop 0).take (l.length*1)=Qb l:=by rw[Zr1,Zr8 (by rw[Za];omega)]
     have hf:=Qcy (g:=Qd [[(5,O.cells []),(7,O.cells (Qb l))]]) (f:=0) (s:=7) (o:=0) (len:=l.length) (esz:=1) (cap:=none) (xs:=Qb l) (m:=10) rfl (by rw[Za];omega) (by rw[e];exact Qbb _ _ (Qa8 l));rw[e] at hf;exact hf
end Go.Proofs.YtpdimkonjmoadaaGreatDoor
namespace Go.Proofs.YtpdimkonjmoadaaGreatDoor
open Go.AM
attribute [local irreducible] U W
def Qbm(L:List Nat)(i:Nat):Nat:=(L.take i).sum
theorem Xr{L:List Nat}{i:Nat}(h:i<L.length):Qbm L (i+1)=Qbm L i+L[i]:=by rw[Qbm,Qbm,Zr6 h,List.sum_append,List.sum_cons,List.sum_nil,Zsa]
theorem Qko(L:List Nat)(i:Nat):Qbm L i<=L.sum:=by have:=congrArg List.sum (Zqa i L);rw[List.sum_append] at this;unfold Qbm;omega
theorem Q70{L:List Nat}{i:Nat}(h:L.length<=i):Qbm L i=L.sum:=by unfold Qbm;rw[Zr8 h]
def Qbd(L:List Nat):Nat->Nat
 |0=>0
 |i+1=>if L.sum-Qbm L i=L.getD i 0 then Qbd L i else Qbd L i+L.getD i 0
theorem Qbs{L:List Nat}{i:Nat}(h:i<L.length):L.getD i 0=L[i]:=by simp[List.getD,Zpk h]
theorem Qu2(L:List Nat):∀i,i<=L.length->Qbd L i<=Qbm L i
 |0,_=>Zr9 _
 |i+1,h=>by
  have:=Qu2 L i (by omega);rw[Xr (by omega)];unfold Qbd;rw[Qbs (by omega)];split<;>omega
theorem Q3w(L:List Nat):∀i,i<=L.length->Qbm L i<L.sum->Qbd L i=Qbm L i
 |0,_,_=>rfl
 |i+1,h,h2=>by
  rw[Xr (by omega)] at h2⊢;have:=Q3w L i (by omega) (by omega);unfold Qbd;rw[Qbs (by omega),if_neg (by omega),this]
def Qbj(L:List Nat)(i:Nat):List V:=(List.range i).map fun j=> .mS 1 20 (Qbd L j) (L.getD j 0) (some (L.getD j 0)) 1
theorem Q0t(L:List Nat)(i:Nat):Qbj L (i+1)=Qbj L i++[.mS 1 20 (Qbd L i) (L.getD i 0) (some (L.getD i 0)) 1]:=by simp[Qbj,Zsk]
theorem Qoq(L:List Nat)(i:Nat)(p:Nat->Nat->Bool)(h:p 1 20=false):Qh p (Qbj L i)=false:=by
 have:∀l:List Nat,Qh p (l.map fun j=>V.mS 1 20 (Qbd L j) (L.getD j 0) (some (L.getD j 0)) 1)=false:=by
  intro l
  induction l with
  |nil=>rfl
  |cons j l ih=>simp only[Zp4,Qh,V.refs,h,ih,Zsl]
 exact this _
def Qks(L:List Nat)(i:Nat):V:= .mS 1 20 (Qbd L i) (L.sum-Qbm L i) (some (L.sum-Qbm L i)) 1
def Qdr(L:List Nat)(i:Nat):V:=if i=0 then .nS else .gS 1 33 (Qbj L i) i 1
def frN(Z:List V)(i:Nat):AM.Frame:=if i=0 then[(20,.cells Z)] else[(20,.cells Z),(33,.grow i)]
def Qw8(Z:List V)(x:V)(i:Nat):AM.Frame:=if i=0 then[(20,.cells Z)] else[(20,.cells Z),(32,.cells [x]),(33,.grow i)]
theorem Q7e(F:AM.Frame)(Z:List V)(L:List Nat)(i:Nat)(hi:i<1100000):
 Qp Tp (Qf.mt 107) 1 (Qd [F,J3 (frN Z i) 32 (.cells [.mS 1 20 (Qbd L i) (L.getD i 0) (some (L.getD i 0)) 1])]) (some 33) 52 52 (Qdr L i) (.mS 1 32 0 1 (some 1) 1)=
  some (.val (Qdr L (i+1)) (some (1,33,.grow (i+1)))):=by
 generalize hx:V.mS 1 20 (Qbd L i) (L.getD i 0) (some (L.getD i 0)) 1=x;have hxs:x.scalar=true:=by rw[<-hx];rfl
 have g32:Qd [F,J3 (frN Z i) 32 (.cells [x])] 1 32=some (.cells [x]):=by show Xf (J3 (frN Z i) 32 _) 32=_;rw[Qas];rfl
 have g33:Qd [F,J3 (frN Z i) 32 (.cells [x])] 1 33=if i=0 then none else some (.grow i):=by
  show Xf (J3 (frN Z i) 32 _) 33=_;rw[Qas,if_neg (by decide)];unfold frN;by_cases h:i=0
  . simp only[h,if_true];rfl
  . simp only[h,if_false];rfl
 have sc:Qj (Qd [F,J3 (frN Z i) 32 (.cells [x])]) 1 (.mS 1 32 0 1 (some 1) 1)=some ([x],1):=by simp only[Qj,g32];rfl
 have hsc:([x]:List V).all V.scalar=true:=by simp[hxs]
 unfold Qdr;rw[if_neg (Zsm i),Q0t,hx];by_cases h:i=0
 . subst h;simp only[if_true] at g33⊢;rw[Qbu Zu1 Qah by27 Qrt rfl Zu1 sc (by decide) (by decide)];simp[grown,(Qej (by decide) rfl:Qf.mt 107 33=false),new,g33,Qbj]
 . simp only[h,if_false] at g33⊢;have hr:J6 (i+1) 24=true:=Jg (by omega) (by omega);simp only[Qp,Zu1,Qah,by27,Qrt,Jp,sc,appendTo,hr,hsc,g33,Zq2,Zq4,if_true,and_self]
def twG(n:Nat)(D:List V):Heap:=if n=0 then[] else[[(20,.cells D),(33,.grow n)]]
set_option maxHeartbeats 4000000 in
theorem Zea(F:AM.Frame)(hw:WF [F])(v:V)(L:List Nat)(hL:L.sum<=1048576)(hn:L.length<1100000)(hv:Ke v (L.map fun n:Nat=>(n:Int))):
 CW Tp Qf 107 [v] [F] fun r K' =>r= .ret (Qdr L L.length)/\K' =F::twG L.length (zerosN [.int .u8 0] L.sum):=by
 refine Ye Tryz.func107 rfl ?_;have len:=hv.len Zu2;rw[Zp6] at len;have at0:∀i:Nat,i<L.length->Qu Tp 34 v (.int .i64 i)=some (.iptr (Qm (L.map fun n:Nat=>(n:Int))) ((i:Int).toNat*1)):=fun i h=>by exact hv.at Zu2 sz3 (by decide) (by omega) (by rw[Zp6];omega)
 have get0:∀i:Nat,i<L.length->(Qm (L.map fun n:Nat=>(n:Int)))[(i:Int).toNat*1]?=some (.int .i64 (L.getD i 0)):=fun i h=>by rw[Qq2,Qbs h];simp[h]
 have sumle:=Qko L;simp only[wS,simprocAttr,Tryz.ntmps107,len];refine W.ul ?_;refine W.loopS (kt:=[0,2,3,9,10,11]) rfl (fun i:Nat=>Qoj v .nS (.int .i64 (Qbm L i:Nat)) v (.int .i64 (L.length:Nat)) (.int .i64 i)) (fun _=>[F,[]]) (fun i=>i<=L.length) (fun i=>L.length-i) ?_ 0 (by omega) rfl rfl;rintro i hi;simp only[Qoj];by_cases h:i<L.length
 . have c1:decide ((i:Int)<(L.length:Nat))=true:=Zsw (by omega);have w1:=Y1 (i:=i) (by omega);have w2:(IntKind.i64).wrap (((Qbm L i:Nat):Int)+(L.getD i 0:Nat))=((Qbm L (i+1):Nat):Int):=by
    have:=sumle (i+1);rw[Xr h] at this⊢;rw[Qbs h,wrap_i64]<;>omega
   simp only[Qki,Qdc,Qc8,Zm,Q9,Yy,nov,gd,rho,Qs,wr,Nat.reduceAdd,Nat.reduceSub,if_true,if_false,reduceIte,reduceCtorEq,Nat.reduceLT,Nat.reduceEqDiff,Nat.reduceMul,Nat.reduceLeDiff,c1,at0 i h,rd3,get0 i h,w1,w2];exact W.done ⟨i+1,rfl,rfl,by omega,by omega⟩
 . have c1:decide ((i:Int)<(L.length:Nat))=false:=Zsx (by omega);have hi2:i=L.length:=by omega
   subst hi2;simp only[wS,simprocAttr,c1];refine W.done ?_;rw[Q70 (Zpp _)];have rm:J6 L.sum 1=true:=Jg (by omega) (by omega);have ms:= @ms_of Tp Qf 107 1 (Qd [F,[]]);generalize hZ:zerosN [V.int .u8 0] L.sum=Z;have hZ' :zerosN [V.int .u8 0] (L.sum:Int).toNat=Z:=hZ;have t1:((L.sum:Nat):Int).toNat=L.sum:=by omega
   have t2:(0:Int)<=(L.sum:Nat):=by omega
   simp only[wS,simprocAttr,Zu0,sz5,by8,zc5,t2,t1,Int.le_refl,rm,and_self,true_and,wG,len,hZ,hZ'];refine W.ul ?_;have hk32:∀i,(Qdr L i).refs (fun f s=>f==1&&[32].contains s)=false:=by
    intro i;unfold Qdr;split
    . rfl
    . have:=Qoq L i (fun f s=>f==1&&[32].contains s) (by simp);simp only[V.refs,this];simp
   refine W.loop (fun(i:Nat) t H=>∃x:V,Jj [2,6,21,22,23] t 0=Qib (Qdr L i) (Qks L i) v (.int .i64 (L.length:Nat)) (.int .i64 i)/\i<=L.length/\H=[F,Qw8 Z x i]/\x.refs (fun f s=>f==1&&[32].contains s)=false)
    (fun i=>L.length-i) ?_ 0 ⟨.bad,rfl,by omega,rfl,rfl⟩ rfl
   rintro i t H ⟨x,ht,hi,rfl,hx⟩;have vr:v.refs (fun f s=>f==1&&[32].contains s)=false:=hv.noRefs _;have zr:Qh (fun f s=>f==1&&[32].contains s) Z=false:=by rw[<-hZ];exact Qg1 _ _ _ rfl
   have hd:([F,Qw8 Z x i]:Heap).modify 1 (Jk fun s=>[32].contains s)=[F,frN Z i]:=by show[F,Jk _ (Qw8 Z x i)]=_;congr 2;unfold frN Qw8;split<;>rfl
   refine⟨_,_,Zq (kt:=[2,6,21,22,23]) (ds:=[32]) rfl ?_ ?_,?_⟩
   . show Qh (fun f s=>f==1&&[32].contains s) _=false;rw[ht];simp only[Qib,Qh,V.refs,hk32 i,vr,Qks];simp
   . show Zb (fun f s=>f==1&&[32].contains s) (([F,Qw8 Z x i]:Heap).modify 1 _)=true;rw[hd];have:=Qd0 (K:=[F]) hw (p:=fun f s=>f==1&&[32].contains s) (fun f s h=>by simp at h;simp;omega);simp only[Zb,Zqq] at this⊢;rw[this];unfold frN;split<;>simp only[Q0,O.refs,zr]<;>rfl
   rw[ht];show W (U _ _ _ _ _ _ _ _ _ (([F,Qw8 Z x i]:Heap).modify 1 _)) _;rw[hd];simp only[Qib];by_cases h:i<L.length
   . have c1:decide ((i:Int)<(L.length:Nat))=true:=Zsw (by omega);have w1:=Y1 (i:=i) (by omega);have hs:=sumle (i+1);rw[Xr h,<-Qbs h] at hs;have sl1:∀g,Z9 Tp g 23 (Qks L i) none (some (.int .i64 (L.getD i 0:Nat))) (some (.int .i64 (L.getD i 0:Nat)))=some (.mS 1 20 (Qbd L i) (L.getD i 0) (some (L.getD i 0)) 1):=
      fun g=>Q8p (n:=L.getD i 0) Zu0 sz5 (by omega)
     have sl2:∀g,Z9 Tp g 23 (Qks L i) (some (.int .i64 (L.getD i 0:Nat))) none none=some (Qks L (i+1)):=fun g=>by have:=Qq7 (P:=Tp) (f:=1) (s:=20) (o:=Qbd L i) (len:=L.sum-Qbm L i) (c:=L.sum-Qbm L i) (w:=L.getD i 0) (k:= .i64) Zu0 sz5 (by omega) (Zpp _) g;refine this.trans ?_;unfold Qks;rw[Xr h,<-Qbs h,Zp7,Nat.sub_sub];rfl
     have n32:Qd [F,frN Z i] 1 32=none:=by show Xf (frN Z i) 32=none;unfold frN;split<;>rfl
     have s32:∀o,hset [F,frN Z i] 1 32 o=[F,J3 (frN Z i) 32 o]:=fun o=>rfl;have s33:∀y,hset [F,J3 (frN Z i) 32 (.cells [y])] 1 33 (.grow (i+1))=[F,Qw8 Z y (i+1)]:=fun y=>by show[F,J3 (J3 (frN Z i) 32 _) 33 _]=_;unfold frN Qw8;rw[if_neg (Zsm i)];split<;>rfl
     have ap:=Q7e F Z L i (by omega);have mt32:Qf.mt 107 32=true:=rfl;have get1:(Qm (L.map fun n:Nat=>(n:Int)))[(i:Int).toNat]?=some (.int .i64 (L.getD i 0:Nat)):=by have:=get0 i h;rwa[Zp7] at this
     have rsc:(Qks L (i+1)).scalar=true:=rfl;generalize hr1:Qks L (i+1)=R1 at sl2 rsc;generalize Qks L i=R0 at*;simp only[Qki,Qdc,Qc8,Zm,Q9,Yy,nov,gd,rho,Qs,wr,Nat.reduceAdd,Nat.reduceSub,if_true,if_false,reduceIte,reduceCtorEq,Nat.reduceLT,Nat.reduceEqDiff,Nat.reduceMul,Nat.reduceLeDiff,c1,at0 i h,rd3,get0 i h,get1,w1,sl1,sl2,Zu1,Qah,Qrt,mt32,new,n32,s32,Q3,ap,s33,wB];rw[<-hr1];exact W.done ⟨i+1,⟨_,rfl,by omega,rfl,by simp[V.refs]⟩,by omega⟩
   . have c1:decide ((i:Int)<(L.length:Nat))=false:=Zsx (by omega);have hi2:i=L.length:=by omega
     subst hi2;simp only[wS,simprocAttr,c1];refine W.done ?_;simp only[wS,simprocAttr];by_cases h0:L.length=0
     . have e:Qdr L L.length= .nS:=by unfold Qdr;rw[if_pos h0]
       rw[e];refine W.done (End.ret (v:= .nS) rfl ?_);refine⟨rfl,(Br (H:=[F]) (G:=[_]) rfl hw).trans ?_⟩;unfold twG;rw[if_pos h0]
     . refine W.done (End.ret (v:=Qdr L L.length) rfl ?_);rw[Z2 (by
        unfold Qdr;rw[if_neg h0]
        simp[V.refs])]
       refine⟨rfl,?_⟩;unfold twG frN;rw[if_neg h0,if_neg h0]
end Go.Proofs.YtpdimkonjmoadaaGreatDoor
namespace Go.Proofs.YtpdimkonjmoadaaGreatDoor
open Go.AM
attribute [local irreducible] U W
theorem Qnz{pol:Pol}{fn fr:Nat}{dst:Option Nat}{f:FuncId}{args args' :List V}{v:V}{H H' :Heap}{x:V×Nat×O}{P:Program}(hp:pol.prim f=none)(hq:pol.pure fn f=false)(hl:pol.lift fn f=true)(ha:Qx (frz (fun _ _=>none) depth) args=some args')(h:Qq P pol f args' []=some (.ret v,H'))(hv:Qdj H' fr dst H v=some x):
 callOp pol (Qq P pol) fn fr dst f args H=some (.ret x.1,wr H (some (fr,x.2.1,x.2.2))):=by
 simp only[callOp,hp,hq,hl,ha,h,hv,Zpo,if_false,if_true,Zpl]
def zB(n:Nat):List UInt8:=List.replicate n 0
theorem Qtf:∀n,zerosN [V.int .u8 0] n=Qb (zB n)
 |0=>rfl
 |n+1=>by
  have:=Qtf n;simp only[zerosN,this];rfl
end Go.Proofs.YtpdimkonjmoadaaGreatDoor
end
