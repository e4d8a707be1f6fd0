/- This file holds in one the texts E12, F11, F13, F6, F7; each says at its head what it proves. -/
import Derived.Test.YtidniacddkalaaaGreatDoorT25
import Derived.Test.YtidniacddkalaaaGreatDoorT32
import Derived.Test.YtidniacddkalaaaGreatDoorT34
import Derived.Test.YtidniacddkalaaaGreatDoorT35
set_option linter.unusedSimpArgs false
set_option linter.unusedVariables false
section
set_option maxRecDepth 100000
namespace Go.Proofs.YtidniacddkalaaaGreatDoor
open Go.AM
attribute [local irreducible] U W
theorem Qb4(x y:Operand)(a b:Bool):Zp Tryz.prog .neq 4 x y (.bool a) (.bool b)=some (.bool (a !=b)):=by
 have hg:(Tryz.prog).eqGuardType (Tryz.prog).depth 4=false:=by kernel_rfl
 simp only[Zp,Qkk,Tryz.underlying4,hg,eqV,Zre,if_false];cases a<;>cases b<;>rfl
set_option maxHeartbeats 16000000 in
theorem Zb2{bv wv sv mv lv kv ov cv:V}{d:Int}{space:List UInt8}{p:Qpc}(hp:Zaf bv wv sv mv lv kv ov cv d space p):Fz Tryz.prog Qg 41 [.agg (Zd bv wv sv mv lv kv ov cv p)] fun x=>x= .int .i64 (okE (Qf9 d (Xx space) (Qga space) p)):=by
 refine Qw Tryz.func41 rfl ?_;obtain⟨hdev,hfrz,hfr0,hnr,sb,sw,hspace,hown,⟨lcs,hlc,hlv⟩,hkeys,hload,⟨ccs,hcc,hcv⟩,f1,f2,f3,f4,f5,f6,f7⟩:=hp;have ss:=Ze hspace;have sm:=Ze hown;have sl:=Ze hlv;obtain⟨kcs,hkc,hkv⟩:=hkeys;have sk:=Ze hkv;obtain⟨ocs,hoc,hov⟩:=hload;have so:=Ze hov;have sc:=Ze hcv;obtain⟨epoch,count,gen,root,own,lines,keys,loaded,changes,logged,nid,ng⟩:=p;simp only at*;obtain⟨m,rfl,hm⟩:=(Qiy bv wv sv d hdev hfrz sb sw space hspace epoch count).op (by rfl) (by
  refine Qa ?_ rfl;have e:Qt (frz (fun _ _=>none) 11) [bv,wv,sv,.int .u32 epoch,.int .u32 count]=some [bv,wv,sv,.int .u32 epoch,.int .u32 count]:=
   Qa (hfr0 _ 1).1 (Qa (hfr0 _ 1).2 (Qa (Q0.frz hspace _) rfl))
  show Option.map V.agg (Qt (frz _ 11) _)=_
  rw[e];rfl)
 have hm1:∀s H,_:=fun s H=>hm 41 0 s H rfl;obtain⟨m,rfl,hm⟩:=(Km root).op (by rfl) rfl;have hm2:∀s H,_:=fun s H=>hm 41 0 s H rfl;have hq:=fun x y=>Qjv (x:=x) (y:=y) root J3;have len:=hown.len Tryz.underlying32;have hD:∀r,okE (Qf9 d (Xx space) (Qga space) ⟨epoch,count,gen,r,own,lines,keys,loaded,changes,logged,nid,ng⟩)=okE (if Qn0 d (Xx space) ⟨epoch,count,gen,r,own,lines,keys,loaded,changes,logged,nid,ng⟩ then false else if Qi9 (Qga space) none own then(if Qmg ⟨epoch,count,gen,r,own,lines,keys,loaded,changes,logged,nid,ng⟩ then false else if Qfl lines none changes then !(lines.any (Yu nid ng)) else false) else false):=fun r=>rfl;rw[hD];have hH:∀r,Qn0 d (Xx space) ⟨epoch,count,gen,r,own,lines,keys,loaded,changes,logged,nid,ng⟩=((!(Qad d (Xx space) epoch count))||(decide (gen>16777215)||(!(Yp r)||(decide (r=J3) !=(gen==0))))):=fun r=>rfl;rw[hH];generalize hMB:Qmg _=mb;have hMB' :mb=((!(Xw lines))||((!(Qcl keys 24))||((!(Qcl loaded 16))||(decide (logged<0)||(decide (logged>8)||(decide (nid<1)||decide (nid>256))))))):=hMB.symm;clear hMB hD hH;generalize Yp root=po at*;generalize decide (root=J3)=pz at*;generalize hst:Qad d (Xx space) epoch count=st at*;obtain⟨ra,rb,rc,rd,re⟩:=root;simp only[Zq.cells,J3] at hm2 hq;generalize hnb:(if Qi9 (Qga space) none own=true then if mb=true then false else if Qfl lines none changes=true then !lines.any (Yu nid ng) else false else false)=nb;simp only[wA,↓Qc,simprocAttr,Tryz.ntmps41,ta,wH,wB,Zd,sb,sw,ss,sm,sl,sk,so,sc,hm1,hm2,hq,Xr,Qb4]
 repeat' ((first|refine W.guardF ?_ ?_|refine W.guardT ?_ ?_|refine W.guardXF ?_ ?_|refine W.guardXT ?_ ?_|refine W.ite ?_ ?_|refine W.opsK1 (by kernel_rfl) ?_)<;>intro h<;>simp only[wA,↓Qc,simprocAttr,h,ta,wH,wB,sb,sw,ss,sm,sl,sk,so,sc,hm1,hm2,hq,Xr,Qb4,len])
 all_goals first
  |(refine W.done (Qk.ret rfl rfl ?_)
    simp only[*,Jy,if_true,if_false]
    rfl)
  |skip
 have eQ:okE (if(false||(false||(false||false)))=true then false else nb)=okE nb:=rfl;rw[eQ];have hst2:Qad d (Xx space) epoch count=true:=by rw[hst];simpa using ‹(!st)=false›
 have hsp:space.length=256:=by simp only[Qad,Zss,Zsr,Zt0,Xx,Zr1,beq_iff_eq] at hst2;exact hst2.2.1.1.1
 have pcD:∃pc,pc=[bv,wv,sv,V.int .u32 epoch,V.int .u32 count,V.int .u32 gen,V.int .i64 ra,V.int .u32 rb,V.int .u32 rc,V.int .u32 rd,V.int .u32 re,mv,lv,kv,ov,cv,V.int .i64 logged,V.int .i64 nid,V.int .u32 ng]:=⟨_,rfl⟩;obtain⟨pc,hpc⟩:=pcD;rw[<-hpc];have g2:pc[2]?=some sv:=by rw[hpc];rfl
 have g11:pc[11]?=some mv:=by rw[hpc];rfl
 have g12:pc[12]?=some lv:=by rw[hpc];rfl
 have g13:pc[13]?=some kv:=by rw[hpc];rfl
 have g14:pc[14]?=some ov:=by rw[hpc];rfl
 have g15:pc[15]?=some cv:=by rw[hpc];rfl
 have g16:pc[16]?=some (.int .i64 logged):=by rw[hpc];rfl
 have g17:pc[17]?=some (.int .i64 nid):=by rw[hpc];rfl
 have g18:pc[18]?=some (.int .u32 ng):=by rw[hpc];rfl
 have gl:pc.length=19:=by rw[hpc];rfl
 have gr:∀q,Qi q pc=false:=fun q=>by rw[hpc];simp only[Qi,V.refs,(hnr q).1,(hnr q).2,hspace.noRefs q,hown.noRefs q,hlv.noRefs q,hkv.noRefs q,hov.noRefs q,hcv.noRefs q,Zub,Bool.or_self]
 clear hpc hm1 hm2 hq hst2;refine W.ul ?_;refine W.loopS (kt:=[1,34,35,36]) rfl (fun i:Nat=>Q88 (.ptr 0 1 0) mv (.int .i64 own.length) (.int .i64 i)) (fun _=>[[(1,.cells pc)]]) (fun i=>i<=own.length/\Qi9 (Qga space) (before own i) (own.drop i)=Qi9 (Qga space) none own) (fun i=>own.length-i) ?_ 0 ⟨by omega,rfl⟩ rfl rfl;rintro i ⟨hi,hR⟩;simp only[Q88];by_cases h:i<own.length
 . have c1:decide ((i:Int)<own.length)=true:=Zum (by omega);have at1:=hown.at (k:= .i64) Tryz.underlying32 sz3 (by decide) (i:=(i:Int)) (by omega) (by omega);have w1:(IntKind.i64).wrap ((i:Int)+1)=((i+1:Nat):Int):=by rw[wrap_i64]<;>omega
   have q1:(Qr own)[(i:Int).toNat*1]?=some (.int .i64 own[i]):=by simp[h,Qr]
   have q1' :(Qr own)[(i:Int).toNat]?=some (.int .i64 own[i]):=by simp[h,Qr]
   have hS:Qi9 (Qga space) (before own i) (own.drop i)=if decide (own[i]<12)||(decide (own[i]>=256)||((match before own i with|some q=>decide (own[i]<=q)|none=>false)||(Qga space own[i].toNat !=1))) then false else Qi9 (Qga space) (before own (i+1)) (own.drop (i+1)):=by
    rw[Zue h];have e:before own (i+1)=some own[i]:=by simp only[before,Zra h]
    rw[e];rfl
   rw[hR] at hS;generalize hp:own[i]=a at*;generalize hnx:Qi9 (Qga space) (before own (i+1)) (own.drop (i+1))=nx at hS;have walkR:∀(X:List (Nat×Nat)),True:=fun _=>trivial;by_cases hA:decide (a<12)=true
   . simp only[wA,↓Qc,simprocAttr,c1,at1,q1,q1',hA,rd3,ta,wH]
     repeat' ((first|refine W.guardF ?_ ?_|refine W.guardT ?_ ?_|refine W.guardXF ?_ ?_|refine W.guardXT ?_ ?_|refine W.ite ?_ ?_|refine W.opsK1 (by kernel_rfl) ?_)<;>intro h<;>simp only[wA,↓Qc,simprocAttr,h,ta,wH])
     all_goals first
      |(refine W.done ?_
        simp only[wA,↓Qc,simprocAttr];refine W.done (Qk.ret rfl rfl ?_);rw[<-hnb,hS];simp only[*,Jy,if_true,if_false]
        try rfl)
      |(try simp only[wA,↓Qc,simprocAttr,w1,(rfl:(IntKind.i64).wrap 1=1)]
        refine W.done ⟨i+1,rfl,rfl,⟨by omega,?_⟩,by omega⟩;rw[hS,hnx];simp only[*,Jy,if_true,if_false]
        try rfl)
   have hA' :decide (a<12)=false:=by simpa using hA
   by_cases hB:decide (a>=256)=true
   . simp only[wA,↓Qc,simprocAttr,c1,at1,q1,q1',hA',hB,rd3,ta,wH]
     repeat' ((first|refine W.guardF ?_ ?_|refine W.guardT ?_ ?_|refine W.guardXF ?_ ?_|refine W.guardXT ?_ ?_|refine W.ite ?_ ?_|refine W.opsK1 (by kernel_rfl) ?_)<;>intro h<;>simp only[wA,↓Qc,simprocAttr,h,ta,wH])
     all_goals first
      |(refine W.done ?_
        simp only[wA,↓Qc,simprocAttr];refine W.done (Qk.ret rfl rfl ?_);rw[<-hnb,hS];simp only[*,Jy,if_true,if_false]
        try rfl)
      |(try simp only[wA,↓Qc,simprocAttr,w1,(rfl:(IntKind.i64).wrap 1=1)]
        refine W.done ⟨i+1,rfl,rfl,⟨by omega,?_⟩,by omega⟩;rw[hS,hnx];simp only[*,Jy,if_true,if_false]
        try rfl)
   have hB' :decide (a>=256)=false:=by simpa using hB
   have h1' :12<=a:=by have:=of_decide_eq_false hA';omega
   have h2' :a<256:=by have:=of_decide_eq_false hB';omega
   have hlt:a.toNat<space.length:=by omega
   have at3:=hspace.at (k:= .i64) Tryz.underlying26 sz5 (by decide) (i:=a) (by omega) (by omega);have q3:(Qb space)[a.toNat*1]?=some (.int .u8 (Qga space a.toNat)):=by rw[Zsd,Qea,Zra hlt,Zrb];unfold Qga;rw[Zug,Zra hlt];rfl
   have q3' :(Qb space)[a.toNat]?=some (.int .u8 (Qga space a.toNat)):=by rw[<-q3,Zsd]
   generalize hsv:Qga space a.toNat=sa at*;cases i with
   |zero=>
    have c0:decide (((0:Nat):Int)>0)=false:=rfl;have hb0:before own 0=none:=rfl;simp only[hb0] at hS;simp only[Qmi,Qe2,Qfd,Zr,Q9,Y9,nov,gd,rho,Qu,wr,Nat.reduceAdd,Nat.reduceSub,if_true,if_false,reduceIte,reduceCtorEq,Nat.reduceLT,Nat.reduceEqDiff,Nat.reduceMul,Nat.reduceLeDiff,Qgq,Int.reduceBEq,Int.reduceBNe,Int.reduceLT,Int.reduceLE,↓Qc,c1,at1,q1,q1',hA',hB',c0,at3,q3,q3',g2,g11,rd3,rd5,ta,wH]
    repeat' ((first|refine W.guardF ?_ ?_|refine W.guardT ?_ ?_|refine W.guardXF ?_ ?_|refine W.guardXT ?_ ?_|refine W.ite ?_ ?_|refine W.opsK1 (by kernel_rfl) ?_)<;>intro h<;>simp only[wA,↓Qc,simprocAttr,h,c0,at3,q3,q3',g2,g11,rd3,rd5,ta,wH])
    all_goals first
     |(refine W.done ?_
       simp only[wA,↓Qc,simprocAttr];refine W.done (Qk.ret rfl rfl ?_);rw[<-hnb,hS];simp only[*,Jy,if_true,if_false]
       try rfl)
     |(try simp only[wA,↓Qc,simprocAttr,w1,(rfl:(IntKind.i64).wrap 1=1)]
       refine W.done ⟨0+1,rfl,rfl,⟨by omega,?_⟩,by omega⟩;rw[hS,hnx];simp only[*,Jy,if_true,if_false]
       try rfl)
   |succ k=>
    have c0:decide (((k+1:Nat):Int)>0)=true:=Zum (by omega);have wk:(IntKind.i64).wrap (((k+1:Nat):Int)-1)=((k:Nat):Int):=by rw[wrap_i64]<;>omega
    have hk:k<own.length:=by omega
    have at2:=hown.at (k:= .i64) Tryz.underlying32 sz3 (by decide) (i:=(k:Int)) (by omega) (by omega);have q2:(Qr own)[(k:Int).toNat*1]?=some (.int .i64 own[k]):=by simp[hk,Qr]
    have q2' :(Qr own)[(k:Int).toNat]?=some (.int .i64 own[k]):=by simp[hk,Qr]
    have hb:before own (k+1)=some own[k]:=by simp only[before,Zra hk]
    simp only[hb] at hS;simp only[wA,↓Qc,simprocAttr,c1,at1,q1,q1',hA',hB',c0,wk,at2,q2,q2',at3,q3,q3',g2,g11,rd3,rd5,ta,wH]
    repeat' ((first|refine W.guardF ?_ ?_|refine W.guardT ?_ ?_|refine W.guardXF ?_ ?_|refine W.guardXT ?_ ?_|refine W.ite ?_ ?_|refine W.opsK1 (by kernel_rfl) ?_)<;>intro h<;>simp only[wA,↓Qc,simprocAttr,h,c0,wk,at2,q2,q2',at3,q3,q3',g2,g11,rd3,rd5,ta,wH])
    all_goals first
     |(refine W.done ?_
       simp only[wA,↓Qc,simprocAttr];refine W.done (Qk.ret rfl rfl ?_);rw[<-hnb,hS];simp only[*,Jy,if_true,if_false]
       try rfl)
     |(try simp only[wA,↓Qc,simprocAttr,w1,(rfl:(IntKind.i64).wrap 1=1)]
       refine W.done ⟨k+1+1,rfl,rfl,⟨by omega,?_⟩,by omega⟩;rw[hS,hnx];simp only[*,Jy,if_true,if_false]
       try rfl)
 . have c1:decide ((i:Int)<own.length)=false:=Zun (by omega);have hA:Qi9 (Qga space) none own=true:=by
    rw[<-hR,Ztt (by omega)];cases hb:before own i<;>rfl
   rw[hA,if_pos rfl] at hnb;simp only[wA,↓Qc,simprocAttr,c1];refine W.done ?_;obtain⟨m,rfl,hm⟩:=(Qzl lv lines ⟨lcs,hlc,hlv⟩).op (by rfl) (Qa (hlv.frz _) rfl);have hm1:∀s H,_:=fun s H=>hm 41 0 s H rfl;obtain⟨m,rfl,hm⟩:=(Qn9 kv keys ⟨kcs,hkc,hkv⟩ f4 f6 24 (.inl rfl)).op (by rfl) (Qa (hkv.frz _) rfl);have hm2:∀s H,_:=fun s H=>hm 41 0 s H rfl;obtain⟨m,rfl,hm⟩:=(Qn9 ov loaded ⟨ocs,hoc,hov⟩ f5 f7 16 (.inr rfl)).op (by rfl) (Qa (hov.frz _) rfl);have hm3:∀s H,_:=fun s H=>hm 41 0 s H rfl;have hl16:Xw lines=true->lines.length<=1000000:=fun h=>by
    unfold Xw at h;by_cases hh:(lines.length:Int)>16
    . rw[if_pos (Zum hh)] at h;cases h
    . omega
   generalize Xw lines=ml at*;generalize Qcl keys 24=mk at*;generalize Qcl loaded 16=mo at*;have len2:=hcv.len Tryz.underlying34;have hcont:=Quu lv lines lcs hlc hlv f2;simp only[wA,↓Qc,simprocAttr,hm1,hm2,hm3,g12,g13,g14,g16,g17,rd3,Qrv,rd22,ta,wH]
   repeat' ((first|refine W.guardF ?_ ?_|refine W.guardT ?_ ?_|refine W.guardXF ?_ ?_|refine W.guardXT ?_ ?_|refine W.ite ?_ ?_|refine W.opsK1 (by kernel_rfl) ?_)<;>intro h<;>simp only[wA,↓Qc,simprocAttr,h,hm1,hm2,hm3,g12,g13,g14,g15,g16,g17,rd3,Qrv,rd22,Qx8,len2,ta,wH])
   all_goals first
    |(refine W.done (Qk.ret rfl rfl ?_)
      rw[<-hnb,hMB'];simp only[*,Jy,if_true,if_false]
      try rfl)
    |skip
   have hmb:mb=false:=by rw[hMB'];simp only[*,Zub,Zs2]
   have hml:ml=true:=by first|assumption|(simp only[*])|simp_all
   rw[hmb,if_neg (by decide)] at hnb;clear hm1 hm2 hm3 hR hA hMB' len;refine W.ul ?_;refine W.loop (fun(i:Nat) t H=>∃F:AM.Frame,Yf [1,108,109,110] t 0=Qub (.ptr 0 1 0) cv (.int .i64 changes.length) (.int .i64 i)/\i<=changes.length/\H=[F]/\(F=[(1,.cells pc)]\/∃x,F=[(1,.cells pc),(6,.cells x)])/\Qfl lines (before changes i) (changes.drop i)=Qfl lines none changes) (fun i=>changes.length-i) ?_ 0 ⟨_,rfl,by omega,rfl,.inl rfl,rfl⟩ rfl;clear h hi c1;rintro i t H ⟨F,ht,hi,rfl,hF,hR⟩;have hd:([F]:Heap).modify 0 (Jb fun s=>[6].contains s)=[[(1,.cells pc)]]:=by rcases hF with rfl|⟨x,rfl⟩<;>rfl
   have vr:cv.refs (fun f s=>f==0&&[6].contains s)=false:=hcv.noRefs _;refine⟨_,_,Jh (kt:=[1,108,109,110]) (ds:=[6]) rfl ?_ ?_,?_⟩
   . rw[ht];simp only[Qub,Qi,V.refs,vr];simp
   . rw[hd];simp only[Qz,Zb,O.refs,gr];simp
   rw[ht,hd];simp only[Qub];by_cases h:i<changes.length
   . have c1:decide ((i:Int)<changes.length)=true:=Zum (by omega);have at1:=hcv.at (k:= .i64) Tryz.underlying34 Qzq (by decide) (i:=(i:Int)) (by omega) (by omega);obtain⟨dv,hdv,ld⟩:=hcc.ld h;have sdv:dv.scalar=true:=by obtain⟨_,hq⟩:=hdv;exact Ze hq
     have ld1:∀g,ldV Tryz.prog 59 g (.iptr ccs ((i:Int).toNat*12))=_:=ld;have w1:(IntKind.i64).wrap ((i:Int)+1)=((i+1:Nat):Int):=by rw[wrap_i64]<;>omega
     have hS:Qfl lines (before changes i) (changes.drop i)=if(match Xl lines changes[i].set with|none=>true|some l=>l.kind !=1)||(!(J8 changes[i])||(match before changes i with|some q=>decide (Qep q changes[i]>=0)|none=>false)) then false else Qfl lines (before changes (i+1)) (changes.drop (i+1)):=by
      rw[Zue h];have e:before changes (i+1)=some changes[i]:=by simp only[before,Zra h]
      rw[e];rfl
     rw[hR] at hS;obtain⟨m,rfl,hm⟩:=(Quq changes[i] dv hdv).op (by rfl) (Qa (Qdq hdv) rfl);have hmc:∀s H,_:=fun s H=>hm 41 0 s H rfl;obtain⟨m,rfl,hm⟩:=(Qus lv lines lcs hlc hlv (hl16 hml) changes[i].set).op (by rfl) (Qa (hlv.frz _) rfl);have hm1:∀s H,_:=fun s H=>hm 41 0 s H rfl;have hor:∀(q:Zf) (qv:V),Qku qv q.n->∀s H,callOp Qg (Qp Tryz.prog Qg) 41 0 s 73 [.agg (Za q qv),.agg (Za changes[i] dv)] H=some (.ret (.int .i64 (Qep q changes[i])),H):=fun q qv hqv s H=>by obtain⟨m,rfl,hm⟩:=(Q83 q changes[i] qv dv hqv hdv).op (by rfl) (Qa (Qdq hqv) (Qa (Qdq hdv) rfl));exact hm 41 0 s H rfl
     generalize hnx:Qfl lines (before changes (i+1)) (changes.drop (i+1))=nx at hS;generalize hoi:Qep=oi at*;generalize J8 changes[i]=mc at*;generalize hp:changes[i]=c at*;simp only[Za] at ld1 hmc;cases hO:Qc9 lines c.set with
     |none=>
      have hLf:Xl lines c.set=none:=by simp only[Xl,hO]
      simp only[hO] at hm1;simp only[hLf,Bool.true_or,if_true] at hS;simp only[wA,↓Qc,simprocAttr,c1,at1,ld1,hm1,hmc,Xr,Qb7,Qca,Qb4,g12,g15,rd3,rd5,Qrv,Qx8,sdv,ta,wH,wB]
      repeat' ((first|refine W.guardF ?_ ?_|refine W.guardT ?_ ?_|refine W.guardXF ?_ ?_|refine W.guardXT ?_ ?_|refine W.ite ?_ ?_|refine W.opsK1 (by kernel_rfl) ?_)<;>intro h<;>simp only[wA,↓Qc,simprocAttr,h,c1,at1,ld1,hm1,hmc,Xr,Qb7,Qca,Qb4,g12,g15,rd3,rd5,Qrv,Qx8,sdv,ta,wH,wB])
      all_goals first
       |(refine W.done ?_
         simp only[wA,↓Qc,simprocAttr];refine W.done (Qk.ret rfl rfl ?_);rw[<-hnb,hS];simp only[*,Jy,if_true,if_false]
         try rfl)
       |(try simp only[wA,↓Qc,simprocAttr,w1,(rfl:(IntKind.i64).wrap 1=1)]
         refine W.done ⟨_,⟨_,rfl,by omega,rfl,.inr ⟨_,rfl⟩,?_⟩,by omega⟩;rw[hS,hnx];simp only[*,Jy,if_true,if_false]
         try rfl)
     |some j=>
      have hj:=Qmp hO;obtain⟨j1,j2,j3,j4⟩:=hlc.cells hj;have hLf:Xl lines c.set=some lines[j]:=by simp only[Xl,hO,Zra hj]
      simp only[hO] at hm1;simp only[hLf] at hS;generalize lines[j].kind=lk at*;cases i with
      |zero=>
       have c0:decide (((0:Nat):Int)>0)=false:=rfl;have hb0:before changes 0=none:=rfl;simp only[hb0] at hS;simp only[Qmi,Qe2,Qfd,Zr,Q9,Y9,nov,gd,rho,Qu,wr,Nat.reduceAdd,Nat.reduceSub,if_true,if_false,reduceIte,reduceCtorEq,Nat.reduceLT,Nat.reduceEqDiff,Nat.reduceMul,Nat.reduceLeDiff,Qgq,Int.reduceBEq,Int.reduceBNe,Int.reduceLT,Int.reduceLE,↓Qc,c0,j2,c1,at1,ld1,hm1,hmc,Xr,Qb7,Qca,Qb4,g12,g15,rd3,rd5,Qrv,Qx8,sdv,ta,wH,wB]
       repeat' ((first|refine W.guardF ?_ ?_|refine W.guardT ?_ ?_|refine W.guardXF ?_ ?_|refine W.guardXT ?_ ?_|refine W.ite ?_ ?_|refine W.opsK1 (by kernel_rfl) ?_)<;>intro h<;>simp only[wA,↓Qc,simprocAttr,h,c0,j2,c1,at1,ld1,hm1,hmc,Xr,Qb7,Qca,Qb4,g12,g15,rd3,rd5,Qrv,Qx8,sdv,ta,wH,wB])
       all_goals first
        |(refine W.done ?_
          simp only[wA,↓Qc,simprocAttr];refine W.done (Qk.ret rfl rfl ?_);rw[<-hnb,hS];simp only[*,Jy,if_true,if_false]
          try rfl)
        |(try simp only[wA,↓Qc,simprocAttr,w1,(rfl:(IntKind.i64).wrap 1=1)]
          refine W.done ⟨0+1,⟨_,rfl,by omega,rfl,.inr ⟨_,rfl⟩,?_⟩,by omega⟩;rw[hS,hnx];simp only[*,Jy,if_true,if_false]
          try rfl)
      |succ k=>
       have c0:decide (((k+1:Nat):Int)>0)=true:=Zum (by omega);have wk:(IntKind.i64).wrap (((k+1:Nat):Int)-1)=((k:Nat):Int):=by rw[wrap_i64]<;>omega
       have hk:k<changes.length:=by omega
       have at2:=hcv.at (k:= .i64) Tryz.underlying34 Qzq (by decide) (i:=(k:Int)) (by omega) (by omega);obtain⟨qv,hqv,ldq⟩:=hcc.ld hk;have ld2:∀g,ldV Tryz.prog 59 g (.iptr ccs ((k:Int).toNat*12))=_:=ldq;have hmo:=hor _ qv hqv;have hb:before changes (k+1)=some changes[k]:=by simp only[before,Zra hk]
       simp only[hb] at hS;simp only[Za] at ld2 hmo;simp only[wA,↓Qc,simprocAttr,c0,j2,c1,at1,ld1,hm1,hmc,Xr,Qb7,Qca,Qb4,g12,g15,rd3,rd5,Qrv,Qx8,sdv,ta,wH,wB]
       repeat' ((first|refine W.guardF ?_ ?_|refine W.guardT ?_ ?_|refine W.guardXF ?_ ?_|refine W.guardXT ?_ ?_|refine W.ite ?_ ?_|refine W.opsK1 (by kernel_rfl) ?_)<;>intro h<;>simp only[wA,↓Qc,simprocAttr,h,c0,wk,at2,ld2,hmo,j2,c1,at1,ld1,hm1,hmc,Xr,Qb7,Qca,Qb4,g12,g15,rd3,rd5,Qrv,Qx8,sdv,ta,wH,wB])
       all_goals first
        |(refine W.done ?_
          simp only[wA,↓Qc,simprocAttr];refine W.done (Qk.ret rfl rfl ?_);rw[<-hnb,hS];simp only[*,Jy,if_true,if_false]
          try rfl)
        |(try simp only[wA,↓Qc,simprocAttr,w1,(rfl:(IntKind.i64).wrap 1=1)]
          refine W.done ⟨_,⟨_,rfl,by omega,rfl,.inr ⟨_,rfl⟩,?_⟩,by omega⟩;rw[hS,hnx];simp only[*,Jy,if_true,if_false]
          try rfl)
   . have c1:decide ((i:Int)<changes.length)=false:=Zun (by omega);have hC:Qfl lines none changes=true:=by
      rw[<-hR,Ztt (by omega)];cases hb:before changes i<;>rfl
     rw[hC,if_pos rfl] at hnb;simp only[wA,↓Qc,simprocAttr,c1];refine W.done ?_;obtain⟨r,H',e1,e2,rfl⟩:=hcont [(1,.cells pc)] pc (by simp only[Zb,O.refs,gr];rfl) rfl gl nid ng g17 g18;subst e2;have hcall:∀d,callOp Qg (Qp Tryz.prog Qg) 41 0 d 74 [lv,.func (.func 75) [] [.ptr 0 1 0]] [[(1,.cells pc)]]=_:=fun d=>K0 rfl rfl rfl e1;simp only[wA,↓Qc,simprocAttr,g12,Qrv,ta,wH,hcall];refine W.ite ?_ ?_<;>intro h2<;>simp only[wA,↓Qc,simprocAttr,ta,wH]
     . refine W.done (Qk.ret rfl rfl ?_);rw[<-hnb,h2];rfl
     . refine W.done (Qk.ret rfl rfl ?_);rw[<-hnb,h2];rfl
end Go.Proofs.YtidniacddkalaaaGreatDoor
namespace Go.Proofs.YtidniacddkalaaaGreatDoor
open Go.AM
attribute [local irreducible] U W
abbrev dOf(x:B6):Int:=okE (B2 x.blocks x.waits)
abbrev Qia(x:B6):Bool:=Qf9 (dOf x) (Xx x.space) (Qga x.space) x.p
theorem K9.toI{cv:V}{x:B6}(h:∃cs,K9 cs x.p.changes x.datas/\Q0 12 cv cs x.p.changes.length):Qmr cv x.p.changes:=by obtain⟨cs,h1,h2⟩:=h;exact⟨cs,h1.toC,h2⟩
section
variable {bv wv sv mv lv kv ov cv : V} {x : B6}
theorem Qn4(h:Jx bv wv sv mv lv kv ov cv x)(f:x.Fits):Qco bv wv sv x.blocks x.waits x.space:=⟨h.blocks,h.waits,h.space,f.blocks,f.waits,f.wat⟩
theorem toPool(h:Jx bv wv sv mv lv kv ov cv x)(f:x.Fits):Zaf bv wv sv mv lv kv ov cv (dOf x) x.space x.p:=by obtain⟨bcs,hbc,hbv⟩:=id h.blocks;obtain⟨wcs,hwc,hwv⟩:=id h.waits;exact⟨Qhz bv wv _ _ h.blocks h.waits f.blocks f.waits,Qdp h.blocks h.waits _,fun g m=>⟨hbv.frz _,hwv.frz _⟩,fun q=>⟨hbv.noRefs _,hwv.noRefs _⟩,Ze hbv,Ze hwv,h.space,h.own,h.lines,h.keys,h.loaded,K9.toI h.changes,f.own,f.lines,f.changes,f.keys,f.loaded,f.keyl,f.loadedl⟩
theorem Q6w(h:Jx bv wv sv mv lv kv ov cv x)(f:x.Fits):Fz Tryz.prog Qg 41 [.agg (Zd bv wv sv mv lv kv ov cv x.p)] fun r=>r= .int .i64 (okE (Qia x)):=Zb2 (toPool h f)
end
end Go.Proofs.YtidniacddkalaaaGreatDoor
namespace Go.Proofs.YtidniacddkalaaaGreatDoor
open Go.AM
attribute [local irreducible] U W
theorem Qi7{α:Type}(p:α->Bool):∀(l:List α) (k:Nat),Zj p k l= -1\/∃i,∃h:i<l.length,Zj p k l=((k+i:Nat):Int)/\p l[i]=true
 |[],k=> .inl rfl
 |x::r,k=>by
  have e:Zj p k (x::r)=if p x=true then(k:Int) else Zj p (k+1) r:=rfl
  by_cases h:p x=true
  . exact .inr ⟨0,by simp,by rw[e,if_pos h];rfl,h⟩
  . rw[e,if_neg h];rcases Qi7 p r (k+1) with h1|⟨i,hi,h1,h2⟩
    . exact .inl h1
    . exact .inr ⟨i+1,by simpa using hi,by rw[h1];congr 1;omega,h2⟩
theorem Q9x(l:Zt)(dv:V)(hd:Jn dv l.dead)(id:Int):Fz Tryz.prog Qg 51 [.agg (Zu l dv),.iptr [.int .i64 id] 0] fun r=>r= .bool (l.id==id):=by refine Qw Tryz.func51 rfl ?_;have sc:=Ze hd;obtain⟨lid,kind,owner,prev,txg,guid,key,root,dead⟩:=l;obtain⟨ra,rb,rc,rd,re⟩:=root;simp only[Zu];simp only[wA,↓Qc,simprocAttr,Tryz.ntmps51,ta,wH,wB,sc];exact W.done (Qk.ret rfl rfl rfl)
theorem Q2h(v:V)(l:List Zt)(cs:List V)(hc:LinesC cs l)(hv:Q0 13 v cs l.length)(hl:l.length<=9223372036854775807)(id:Int):
 Fz Tryz.prog Qg 50 [v,.func (.func 51) [] [.iptr [.int .i64 id] 0]] fun r=>r= .int .i64 (Zj (fun x=>x.id==id) 0 l):=by
 refine Qw Tryz.func50 rfl ?_;have len:=hv.len Tryz.underlying33;generalize hp:(fun x:Zt=>x.id==id)=p;simp only[wA,↓Qc,simprocAttr,Tryz.ntmps50,ta,wH,wB,len];refine W.ul ?_;refine W.loopS (kt:=[0,1,7,8]) rfl (fun i:Nat=>Qu0 v (.func (.func 51) [] [.iptr [.int .i64 id] 0]) (.int .i64 l.length) (.int .i64 i)) (fun _=>[[]]) (fun i=>i<=l.length/\Zj p i (l.drop i)=Zj p 0 l) (fun i=>l.length-i) ?_ 0 ⟨by omega,rfl⟩ rfl rfl;rintro i ⟨hi,hR⟩;simp only[Qu0];by_cases h:i<l.length
 . have c1:decide ((i:Int)<l.length)=true:=Zum (by omega);have at1:=hv.at (k:= .i64) Tryz.underlying33 Qnt (by decide) (i:=(i:Int)) (by omega) (by omega);obtain⟨dv,hdv,ld⟩:=hc.ld h;have ld1:∀g,ldV Tryz.prog 57 g (.iptr cs ((i:Int).toNat*13))=_:=ld;have w1:(IntKind.i64).wrap ((i:Int)+1)=((i+1:Nat):Int):=by rw[wrap_i64]<;>omega
   obtain⟨m,rfl,hm⟩:=(Q9x l[i] dv hdv id).op (by rfl) (Qa (Qbx hdv) (Qa rfl rfl));have hm1:∀s H,_:=fun s H=>hm 50 0 s H rfl;have e:(l[i].id==id)=p l[i]:=by rw[<-hp]
   rw[e] at hm1;have hS:Zj p i (l.drop i)=if p l[i] then(i:Int) else Zj p (i+1) (l.drop (i+1)):=by rw[Zue h];rfl
   rw[hR] at hS;simp only[wA,↓Qc,simprocAttr,c1,at1,ld1,hm1,ta,wH,wB];refine W.ite ?_ ?_<;>intro h2<;>simp only[wA,↓Qc,simprocAttr,ta,wH,w1]
   . refine W.done ?_;simp only[wA,↓Qc,simprocAttr];refine W.done (Qk.ret (v:= .int .i64 (Zj p 0 l)) ?_ rfl rfl);rw[hS,h2];rfl
   . refine W.done ⟨i+1,rfl,rfl,⟨by omega,?_⟩,by omega⟩;rw[hS,h2];rfl
 . have c1:decide ((i:Int)<l.length)=false:=Zun (by omega);simp only[wA,↓Qc,simprocAttr,c1];refine W.done ?_;simp only[wA,↓Qc,simprocAttr];refine W.done (Qk.ret (v:= .int .i64 (Zj p 0 l)) ?_ rfl rfl);rw[<-hR,Ztt (by omega)];rfl
def Qob:Zt:=⟨0,0,0,0,0,0,0,J3,[]⟩
def Q3j(x:B6)(id:Int)(r:V):Prop:=∃(l:Zt) (dv:V) (e:Int),r= .tuple [.agg (Zu l dv),.int .i64 e]/\Jn dv l.dead/\((e=0/\Qia x=true/\l∈x.p.lines/\l.id=id)\/(e≠0/\l=Qob))
theorem LinesC.ldx{ls:List Zt}{cs:List V}{i:Nat}(h:LinesC cs ls)(hi:i<ls.length):∃dv,Jn dv ls[i].dead/\(∀g,ldV Tryz.prog 57 g (.iptr cs ((i:Int).toNat*13))=some (.agg (Zu ls[i] dv))):=h.ld hi
section
variable {bv wv sv mv lv kv ov cv : V} {x : B6}
theorem Xu(h:Jx bv wv sv mv lv kv ov cv x)(g:Get):frz g depth (.agg (Zd bv wv sv mv lv kv ov cv x.p))=some (.agg (Zd bv wv sv mv lv kv ov cv x.p)):=by
 obtain⟨_,_,h1⟩:=h.blocks;obtain⟨_,_,h2⟩:=h.waits;obtain⟨_,_,h5⟩:=h.lines;obtain⟨_,_,h6⟩:=h.keys;obtain⟨_,_,h7⟩:=h.loaded;obtain⟨_,_,h8⟩:=h.changes;show Option.map V.agg (Qt (AM.frz _ 11) (Zd bv wv sv mv lv kv ov cv x.p))=_;have e:Qt (AM.frz g 11) (Zd bv wv sv mv lv kv ov cv x.p)=some (Zd bv wv sv mv lv kv ov cv x.p):=by
  simp only[Zd]
  repeat' (first|refine Qa rfl ?_|refine Qa (h1.frz 10) ?_|refine Qa (h2.frz 10) ?_|refine Qa (h.space.frz 10) ?_|refine Qa (Q0.frz h.own 10) ?_|refine Qa (h5.frz 10) ?_|refine Qa (h6.frz 10) ?_|refine Qa (h7.frz 10) ?_|refine Qa (h8.frz 10) ?_|rfl)
 rw[e];rfl
theorem Bf(h:Jx bv wv sv mv lv kv ov cv x):bv.scalar=true/\wv.scalar=true/\sv.scalar=true/\mv.scalar=true/\lv.scalar=true/\kv.scalar=true/\ov.scalar=true/\cv.scalar=true:=by obtain⟨_,_,h1⟩:=h.blocks;obtain⟨_,_,h2⟩:=h.waits;obtain⟨_,_,h5⟩:=h.lines;obtain⟨_,_,h6⟩:=h.keys;obtain⟨_,_,h7⟩:=h.loaded;obtain⟨_,_,h8⟩:=h.changes;exact⟨Ze h1,Ze h2,Ze h.space,Ze h.own,Ze h5,Ze h6,Ze h7,Ze h8⟩
theorem Qvg(h:Jx bv wv sv mv lv kv ov cv x)(f:x.Fits)(id:Int):Fz Tryz.prog Qg 26 [.agg (Zd bv wv sv mv lv kv ov cv x.p),.int .i64 id] (Q3j x id):=by
 refine Qw Tryz.func26 rfl ?_;obtain⟨m,rfl,hm⟩:=(Q6w h f).op (by rfl) (Qa (Xu h _) rfl);have hm1:∀s H,_:=fun s H=>hm 26 0 s H rfl;obtain⟨cs,hc,hv⟩:=h.lines;obtain⟨m,rfl,hm⟩:=(Q2h lv x.p.lines cs hc hv f.lines id).op (by rfl) (Qa (hv.frz _) (Qa rfl rfl));have hm2:∀s H,_:=fun s H=>hm 26 0 s H rfl;have sc:=Bf h;have res:∀(l:Zt) (dv:V) (y:Int) (T:List V) (H:Heap),Jn dv l.dead->((y=0/\Qia x=true/\l∈x.p.lines/\l.id=id)\/(y≠0/\l=Qob))->Xn Tryz.prog Tryz.f26 T H=some (.tuple [.agg (Zu l dv),.int .i64 y])->Qk Tryz.prog Tryz.f26 (Q3j x id) .ret T H:=fun l dv y T H hd hy h1=>
  Qk.ret h1 (by
   show Option.map V.tuple (Qt (AM.frz _ 11) [.agg (Zu l dv),.int .i64 y])=_;have:=hd.frz (g:=Qd H) 9;have e:AM.frz (Qd H) 11 (.agg (Zu l dv))=some (.agg (Zu l dv)):=by
    show Option.map V.agg (Qt (AM.frz _ 10) (Zu l dv))=_;have e:Qt (AM.frz (Qd H) 10) (Zu l dv)=some (Zu l dv):=by
     simp only[Zu]
     repeat' (first|refine Qa rfl ?_|refine Qa this ?_|rfl)
    rw[e];rfl
   rw[Qa e (Qa rfl rfl)];rfl) ⟨l,dv,y,rfl,hd,hy⟩
 simp only[Zd] at hm1⊢;obtain⟨s1,s2,s3,s4,s5,s6,s7,s8⟩:=sc;cases hok:Qia x
 . simp only[hok,okE] at hm1;simp only[wA,↓Qc,simprocAttr,Tryz.ntmps26,ta,wH,wB,hm1,s1,s2,s3,s4,s5,s6,s7,s8];exact W.done (res Qob .nS 8 _ _ Q0.nil (.inr ⟨by decide,rfl⟩) rfl)
 . simp only[hok,okE] at hm1;rcases Qi7 (fun y:Zt=>y.id==id) x.p.lines 0 with h1|⟨i,hi,h1,h2⟩
   . rw[h1] at hm2;simp only[wA,↓Qc,simprocAttr,Tryz.ntmps26,ta,wH,wB,hm1,hm2,s1,s2,s3,s4,s5,s6,s7,s8];exact W.done (res Qob .nS 6 _ _ Q0.nil (.inr ⟨by decide,rfl⟩) rfl)
   . rw[h1,Zrm] at hm2;have c1:decide ((i:Int)<0)=false:=by simp
     have fl:=f.lines;have at1:=hv.at (k:= .i64) Tryz.underlying33 Qnt (by decide) (i:=(i:Int)) (by omega) (by omega);obtain⟨dv,hdv,ld⟩:=LinesC.ldx hc hi;have hmem:x.p.lines[i]∈x.p.lines:=Ztp hi;generalize x.p.lines[i]=l at*;have sd:=Ze hdv;obtain⟨lid,kind,owner,prev,txg,guid,key,⟨ra,rb,rc,rd,re⟩,dead⟩:=l;simp only[Zu] at ld;simp only[wA,↓Qc,simprocAttr,Tryz.ntmps26,ta,wH,wB,hm1,hm2,c1,at1,ld,sd,s1,s2,s3,s4,s5,s6,s7,s8];exact W.done (res _ dv 0 _ _ hdv (.inl ⟨rfl,by first|exact hok|rfl,hmem,by simpa using h2⟩) rfl)
end
end Go.Proofs.YtidniacddkalaaaGreatDoor
namespace Go.Proofs.YtidniacddkalaaaGreatDoor
open Go.AM
attribute [local irreducible] U W
theorem Qsq(v:V)(l:List UInt8)(hv:Qf v l)(hl:l.length<=281474976710656)(k:Nat)(hk:0<k)(hk2:k<=281474976710656)(m:Nat)(hm:l.length=k*m)(fo so:Nat)(H0:Heap)(I:Nat->Heap->Prop)(S:Heap->Prop)(h0:I 0 (H0++[[]]))
 (step:∀j H,j<m->I j H->∀w,Qf w ((l.drop (k*j)).take k)->∃b H',Qp Tryz.prog Qg none [.yield fo so,w] H=some (.ret (.bool b),H')/\(b=true->I (j+1) H')/\(b=false->S H'))(last:∀H,I m H->S H):
 CW Tryz.prog Qg 58 [.yield fo so,.iptr [v] 0,.iptr [.int .i64 k] 0] H0 fun r H' =>r= .ret (.tuple [])/\∃HE,S HE/\H' =Bb H0.length (.tuple []) HE:=by
 refine Kb Tryz.func58 rfl ?_;have len:=hv.len Tryz.underlying26;simp only[wA,↓Qc,simprocAttr,Tryz.ntmps58,ta,wH,wB];refine W.ul ?_;refine W.loop (fun(j:Nat) t H=>Yf [0,1,2,4] t 0=Qtl (.yield fo so) (.iptr [v] 0) (.iptr [.int .i64 k] 0) (.int .i64 ((k*j:Nat):Int))/\j<=m/\I j H) (fun j=>m-j) ?_ 0 ⟨rfl,Zt2 _,h0⟩;rintro j t H ⟨ht,hj,hI⟩;refine⟨_,_,Ji (kt:=[0,1,2,4]) rfl rfl,?_⟩;rw[ht];simp only[Qtl];by_cases h:j<m
 . have hle:k*j+k<=l.length:=by
    have:k*(j+1)<=k*m:=Nat.mul_le_mul_left k h;rw[Nat.mul_succ] at this;omega
   have c1:decide (((k*j:Nat):Int)<l.length)=true:=by simp only[decide_eq_true_eq];omega
   obtain⟨w1,sl1,hw1⟩:=hv.cut (P:=Tryz.prog) Tryz.underlying26 sz5 (some ((k*j:Nat):Int)) none (by simp only[Zs3];omega) (by simp only[Zs3,Zsu];omega) (by simp only[Zsu];omega);have len1:=hw1.len Tryz.underlying26;have e1:((l.drop ((some ((k*j:Nat):Int)).getD 0).toNat).take (((none:Option Int).getD l.length).toNat-((some ((k*j:Nat):Int)).getD 0).toNat)).length=l.length-k*j:=by simp only[Zs3,Zsu,Ztx,Zsv,Zsw];omega
   rw[e1] at len1;simp only[Zrb,Ztc] at sl1;have mn:(if((l.length-k*j:Nat):Int)<(k:Int) then((l.length-k*j:Nat):Int) else(k:Int))=k:=if_neg (by omega);have w2:(IntKind.i64).wrap (((k*j:Nat):Int)+k)=((k*j+k:Nat):Int):=by rw[wrap_i64]<;>omega
   obtain⟨w3,sl3,hw3,_⟩:=cut3 (P:=Tryz.prog) Tryz.underlying26 sz5 hv (a:=k*j) (b:=k*j+k) (by omega) hle (fun _ _=>none);rw[Nat.add_sub_cancel_left] at hw3;obtain⟨b,H',st,hT,hF⟩:=step j H h hI w3 hw3;have e2:k*(j+1)=k*j+k:=Nat.mul_succ k j;generalize hP:(k*j:Nat)=p at*;generalize hQ:(p+k:Nat)=q at*;simp only[wA,↓Qc,simprocAttr,ta,wH,wB,c1,len,len1,sl1,sl3,mn,w2,st,Z6,Qdt];refine W.opsK (by kernel_rfl) ?_;cases b
   . simp only[wA,↓Qc,simprocAttr,ta,wH,wB,c1,len,len1,sl1,sl3,mn,w2,st,Z6,Qdt];refine W.done ?_;simp only[wA,↓Qc,simprocAttr];exact W.done (End.ret (v:= .tuple []) rfl ⟨rfl,_,hF rfl,rfl⟩)
   . simp only[wA,↓Qc,simprocAttr,ta,wH,wB,c1,len,len1,sl1,sl3,mn,w2,st,Z6,Qdt];refine W.done ⟨j+1,⟨?_,h,hT rfl⟩,by omega⟩;rw[e2];rfl
 . have hjm:j=m:=by omega
   subst hjm;have c1:decide (((k*j:Nat):Int)<l.length)=false:=by simp only[decide_eq_false_iff_not];omega
   simp only[wA,↓Qc,simprocAttr,ta,wH,wB,len,c1];refine W.done ?_;simp only[wA,↓Qc,simprocAttr];exact W.done (End.normal (v:= .tuple []) rfl ⟨rfl,_,last _ hI,rfl⟩)
end Go.Proofs.YtidniacddkalaaaGreatDoor
namespace Go.Proofs.YtidniacddkalaaaGreatDoor
open Go.AM
attribute [local irreducible] U W
theorem bv5:K4 Tryz.prog 255 [(0,V.int .i64 1),(1,.int .i64 3),(2,.int .i64 4),(3,.int .i64 4),(4,.int .i64 4)]=some (.agg [.int .i64 1,.int .i64 3,.int .i64 4,.int .i64 4,.int .i64 4]):=by kernel_rfl
theorem Zan:Fz Tryz.prog Qg 193 [] fun x=>x= .agg [.int .i64 1,.int .i64 3,.int .i64 4,.int .i64 4,.int .i64 4]:=by refine Qw Tryz.func193 rfl ?_;simp only[wA,↓Qc,simprocAttr,Tryz.ntmps193,ta,wH,wB,bv5];exact W.done (Qk.ret (v:= .agg [.int .i64 1,.int .i64 3,.int .i64 4,.int .i64 4,.int .i64 4]) rfl rfl rfl)
def RPtr(x:V):Prop:=∃(p:Zq) (e:Int),x= .tuple [.agg p.cells,.int .i64 e]/\((e=0/\Yp p=true)\/(e≠0/\p=J3))
theorem Q4u(v:V)(l:List UInt8)(hv:Qf v l)(hl:l.length<=1048576)(a k:Nat)(ha:a<=1048576)(hk:k<=4):∃n:Nat,n<4294967296/\∃e:Nat,Fz Tryz.prog Qg 176 [v,.int .i64 a,.int .i64 k] fun r=>r= .tuple [.int .i64 n,.int .i64 e]:=by
 refine⟨(Q2m l a k).1,?_,(Q2m l a k).2,Q8l v l hv (by omega) a k (by omega) (by omega)⟩;have lt:=Qlb ((l.drop a).take k);have h2:256^((l.drop a).take k).length<=256^4:=Nat.pow_le_pow_right (by decide) (by simp;omega);unfold Q2m;split
 . decide
 . split
   . decide
   . exact Zri lt h2
theorem Q01(v:V)(l:List UInt8)(hv:Qf v l)(hl:l.length=16):Fz Tryz.prog Qg 175 [v] RPtr:=by
 refine Qw Tryz.func175 rfl ?_;have len:=hv.len Tryz.underlying26;rw[hl] at len;obtain⟨m,rfl,hm⟩:=Zan.op (by rfl) rfl;have hmS:∀s H,_:=fun s H=>hm 175 0 s H rfl;have g:∀a k:Nat,a<=16->k<=4->∃n:Nat,n<4294967296/\∃e:Nat,∀s H,callOp Qg (Qp Tryz.prog Qg) 175 0 s 176 [v,.int .i64 a,.int .i64 k] H=some (.ret (.tuple [.int .i64 n,.int .i64 e]),H):=fun a k h1 h2=>by obtain⟨n,hn,e,h⟩:=Q4u v l hv (by omega) a k (by omega) h2;obtain⟨m,rfl,hm⟩:=h.op (by rfl) (Qa (hv.frz _) rfl);exact⟨n,hn,e,fun s H=>hm 175 0 s H rfl⟩
 obtain⟨n0,h0,e0,g0⟩:=g 0 1 (by omega) (by omega);obtain⟨n1,h1,e1,g1⟩:=g 1 3 (by omega) (by omega);obtain⟨n2,h2,e2,g2⟩:=g 4 4 (by omega) (by omega);obtain⟨n3,h3,e3,g3⟩:=g 8 4 (by omega) (by omega);obtain⟨n4,h4,e4,g4⟩:=g 12 4 (by omega) (by omega);clear g;have k0:∀s H,callOp Qg (Qp Tryz.prog Qg) 175 0 s 176 [v,.int .i64 0,.int .i64 1] H=some (.ret (.tuple [.int .i64 n0,.int .i64 e0]),H):=g0;have k1:∀s H,callOp Qg (Qp Tryz.prog Qg) 175 0 s 176 [v,.int .i64 1,.int .i64 3] H=some (.ret (.tuple [.int .i64 n1,.int .i64 e1]),H):=g1;have k2:∀s H,callOp Qg (Qp Tryz.prog Qg) 175 0 s 176 [v,.int .i64 4,.int .i64 4] H=some (.ret (.tuple [.int .i64 n2,.int .i64 e2]),H):=g2;have k3:∀s H,callOp Qg (Qp Tryz.prog Qg) 175 0 s 176 [v,.int .i64 8,.int .i64 4] H=some (.ret (.tuple [.int .i64 n3,.int .i64 e3]),H):=g3;have k4:∀s H,callOp Qg (Qp Tryz.prog Qg) 175 0 s 176 [v,.int .i64 12,.int .i64 4] H=some (.ret (.tuple [.int .i64 n4,.int .i64 e4]),H):=g4;clear g0 g1 g2 g3 g4;have cv:∀g (n:Int),convertV Tryz.prog g 3 27 (.int .i64 n)=some (.val (.int .u32 ((IntKind.u32).wrap n)) none):=fun g n=>by simp only[convertV,Tryz.underlying3,Tryz.underlying27]
 have hp:=Km ⟨n0,(IntKind.u32).wrap n1,(IntKind.u32).wrap n2,(IntKind.u32).wrap n3,(IntKind.u32).wrap n4⟩;generalize hw1:(IntKind.u32).wrap (n1:Int)=w1 at*;generalize hw2:(IntKind.u32).wrap (n2:Int)=w2 at*;generalize hw3:(IntKind.u32).wrap (n3:Int)=w3 at*;generalize hw4:(IntKind.u32).wrap (n4:Int)=w4 at*;obtain⟨m,rfl,hm⟩:=hp.op (by rfl) rfl;have hm1:∀s H,_:=fun s H=>hm 175 0 s H rfl;simp only[Zq.cells] at hm1;simp only[wA,↓Qc,simprocAttr,Tryz.ntmps175,ta,wH,wB,len,hmS];refine W.ul ?_;refine W.loopS (kt:=[0,2,4,5,13,14]) rfl (fun i:Nat=>Q3u v (.ptr 0 2 0) (.ptr 0 4 0) (.int .i64 ([0,1,4,8,12,16].getD i 0)) (.agg [.int .i64 1,.int .i64 3,.int .i64 4,.int .i64 4,.int .i64 4]) (.int .i64 i)) (fun i:Nat=>[[(2,.cells [.int .i64 0,.int .u32 0,.int .u32 0,.int .u32 0,.int .u32 0]),(4,.cells [.int .i64 (if 0<i then n0 else 0),.int .i64 (if 1<i then n1 else 0),.int .i64 (if 2<i then n2 else 0),.int .i64 (if 3<i then n3 else 0),.int .i64 (if 4<i then n4 else 0)])]]) (fun i=>i<=5) (fun i=>5-i) ?_ 0 (by omega) rfl rfl;rintro i hi;simp only[Q3u];have hi' :i=0\/i=1\/i=2\/i=3\/i=4\/i=5:=by omega
 have ix:∀j:Nat,j<5->B1 Tryz.prog 255 (.agg [.int .i64 1,.int .i64 3,.int .i64 4,.int .i64 4,.int .i64 4]) (.int .i64 j)=some (.int .i64 ([1,3,4,4,4].getD j 0)):=fun j hj=>by
  have:j=0\/j=1\/j=2\/j=3\/j=4:=by omega
  simp only[B1,Tryz.underlying255,sz3];rcases this with rfl|rfl|rfl|rfl|rfl<;>rfl
 have i0:B1 Tryz.prog 255 (.agg [.int .i64 1,.int .i64 3,.int .i64 4,.int .i64 4,.int .i64 4]) (.int .i64 0)=some (.int .i64 1):=ix 0 (by omega);have i1:B1 Tryz.prog 255 (.agg [.int .i64 1,.int .i64 3,.int .i64 4,.int .i64 4,.int .i64 4]) (.int .i64 1)=some (.int .i64 3):=ix 1 (by omega);have i2:B1 Tryz.prog 255 (.agg [.int .i64 1,.int .i64 3,.int .i64 4,.int .i64 4,.int .i64 4]) (.int .i64 2)=some (.int .i64 4):=ix 2 (by omega);have i3:B1 Tryz.prog 255 (.agg [.int .i64 1,.int .i64 3,.int .i64 4,.int .i64 4,.int .i64 4]) (.int .i64 3)=some (.int .i64 4):=ix 3 (by omega);have i4:B1 Tryz.prog 255 (.agg [.int .i64 1,.int .i64 3,.int .i64 4,.int .i64 4,.int .i64 4]) (.int .i64 4)=some (.int .i64 4):=ix 4 (by omega);have ia:∀j:Nat,j<5->Qm Tryz.prog 255 (.ptr 0 4 0) (.int .i64 j)=some (.ptr 0 4 j):=fun j hj=>by
  have:j=0\/j=1\/j=2\/j=3\/j=4:=by omega
  simp only[Qm,Tryz.underlying255,sz3];rcases this with rfl|rfl|rfl|rfl|rfl<;>rfl
 have a0:Qm Tryz.prog 255 (.ptr 0 4 0) (.int .i64 0)=some (.ptr 0 4 0):=ia 0 (by omega);have a1:Qm Tryz.prog 255 (.ptr 0 4 0) (.int .i64 1)=some (.ptr 0 4 1):=ia 1 (by omega);have a2:Qm Tryz.prog 255 (.ptr 0 4 0) (.int .i64 2)=some (.ptr 0 4 2):=ia 2 (by omega);have a3:Qm Tryz.prog 255 (.ptr 0 4 0) (.int .i64 3)=some (.ptr 0 4 3):=ia 3 (by omega);have a4:Qm Tryz.prog 255 (.ptr 0 4 0) (.int .i64 4)=some (.ptr 0 4 4):=ia 4 (by omega);have ws:∀n:Nat,n<100->(IntKind.i64).wrap (n:Int)=n:=fun n hn=>by rw[wrap_i64]<;>omega
 have q1:(IntKind.i64).wrap 1=1:=ws 1 (by omega);have q2:(IntKind.i64).wrap 2=2:=ws 2 (by omega);have q3:(IntKind.i64).wrap 3=3:=ws 3 (by omega);have q4:(IntKind.i64).wrap 4=4:=ws 4 (by omega);have q5:(IntKind.i64).wrap 5=5:=ws 5 (by omega);have q8:(IntKind.i64).wrap 8=8:=ws 8 (by omega);have q12:(IntKind.i64).wrap 12=12:=ws 12 (by omega);have q16:(IntKind.i64).wrap 16=16:=ws 16 (by omega);rcases hi' with rfl|rfl|rfl|rfl|rfl|rfl
 case inr.inr.inr.inr.inr=>
  have c1:decide (((5:Nat):Int)<5)=false:=rfl;simp only[wA,↓Qc,simprocAttr,ta,wH,wB,c1];refine W.done ?_;cases hok:Yp ⟨n0,w1,w2,w3,w4⟩
  . simp only[hok,okE] at hm1;simp only[wA,↓Qc,simprocAttr,ta,wH,wB,cv,hw1,hw2,hw3,hw4,hm1,a0,a1,a2,a3,a4];exact W.done (Qk.ret (v:= .tuple [.agg J3.cells,.int .i64 8]) rfl rfl ⟨J3,8,rfl,.inr ⟨by decide,rfl⟩⟩)
  . simp only[hok,okE] at hm1;simp only[wA,↓Qc,simprocAttr,ta,wH,wB,cv,hw1,hw2,hw3,hw4,hm1,a0,a1,a2,a3,a4];exact W.done (Qk.ret (v:= .tuple [.agg [.int .i64 n0,.int .u32 w1,.int .u32 w2,.int .u32 w3,.int .u32 w4],.int .i64 0]) rfl rfl ⟨⟨n0,w1,w2,w3,w4⟩,0,rfl,.inl ⟨rfl,hok⟩⟩)
 . simp only[wA,↓Qc,simprocAttr,ta,wH,wB,i0,k0,q1,a0];exact W.done ⟨1,rfl,rfl,by omega,by omega⟩
 . simp only[wA,↓Qc,simprocAttr,ta,wH,wB,i1,k1,q2,q4,a1];exact W.done ⟨2,rfl,rfl,by omega,by omega⟩
 . simp only[wA,↓Qc,simprocAttr,ta,wH,wB,i2,k2,q3,q8,a2];exact W.done ⟨3,rfl,rfl,by omega,by omega⟩
 . simp only[wA,↓Qc,simprocAttr,ta,wH,wB,i3,k3,q4,q12,a3];exact W.done ⟨4,rfl,rfl,by omega,by omega⟩
 . simp only[wA,↓Qc,simprocAttr,ta,wH,wB,i4,k4,q5,q16,a4];exact W.done ⟨5,rfl,rfl,by omega,by omega⟩
end Go.Proofs.YtidniacddkalaaaGreatDoor
end
