/- This file holds in one the texts PR3, PR4, PR5, PR6; each says at its head what it proves. -/
import Derived.Test.YtpdimkonjmoadaaGreatDoorT19
import Derived.Test.YtpdimkonjmoadaaGreatDoorT26
set_option linter.unusedSimpArgs false
set_option linter.unusedVariables false
section
set_option maxRecDepth 100000
namespace Go.Proofs.YtpdimkonjmoadaaGreatDoor
open Go.AM
attribute [local irreducible] U W
theorem bybS:(match byt Tp 5 with|some b=>decide (b<=128)|none=>false)=true:=by kernel_rfl
theorem bycS:∃b,byt Tp 5=some b/\b<=128:=by
 have h:=bybS;cases hb:byt Tp 5 with
 |none=>rw[hb] at h;cases h
 |some b=>rw[hb] at h;exact⟨b,rfl,of_decide_eq_true h⟩
theorem Zbn(v:V)(cs:List V)(n:Nat)(hv:Qv 1 v cs n)(hn:n<=1100000)(hsc:cs.all V.scalar=true):
 ∃r K',Qq Tp Qf (some 21) [v] []=some (r,K')/\((v= .nS/\n=0/\cs=[]/\r= .ret .nS)\/∃f s cap,v= .iS cs n f/\r= .ret (.mS 0 s 0 n cap 1)/\Qd K' 0 s=some (.cells cs)):=by
 have key:CW Tp Qf 21 [v] [] fun r K' =>((v= .nS/\n=0/\cs=[]/\r= .ret .nS)\/∃f s cap,v= .iS cs n f/\r= .ret (.mS 0 s 0 n cap 1)/\Qd K' 0 s=some (.cells cs)):=by
  refine Ye Tryz.func21 rfl ?_;obtain⟨hlen,⟨rfl,h0⟩|⟨f,rfl⟩⟩:=id hv
  . have e:∀p q,Zj Tp .eql 23 p q .nS .nS=some (.bool true):=fun p q=>rfl;simp only[wX,↓Qc,simprocAttr,Tryz.ntmps21,e];exact W.done (End.ret (v:= .nS) rfl (.inl (by
     have hcs:cs=[]:=Zqh (by rw[hlen,h0,Zsq])
     first|exact⟨rfl,h0,hcs,rfl⟩|exact⟨h0,hcs,rfl⟩)))
  . have sc:∀g,Qj g 1 (.iS cs n f)=some (cs,n):=fun g=>Qv.sc hv;have mt5:Qf.mt 21 5=true:=rfl;have mt7:Qf.mt 21 7=true:=rfl;obtain⟨b,hb,hb2⟩:=bycS;have g5:Qd [[(5,O.cells [])]] 0 5=some (.cells []):=rfl;by_cases h0:n=0
    . subst h0;have hcs:cs=[]:=Zqh (by rw[hlen,Zsq]);subst hcs;have ap:Qp Tp (Qf.mt 21) 0 (Qd [[(5,O.cells [])]]) (some 7) 23 23 (.mS 0 5 0 0 (some 0) 1) (.iS [] 0 f)=some (.val (.mS 0 5 0 0 (some 0) 1) none):=
       Qfd Zu0 sz5 hb zc5 rfl Zu0 rfl (sc _)
      simp only[wX,↓Qc,simprocAttr,Tryz.ntmps21,Je Zu0,mt5,Q3,ap,Zu0];refine W.done (End.ret (v:= .mS 0 5 0 0 (some 0) 1) rfl (.inr ⟨f,5,some 0,rfl,rfl,?_⟩));rw[Z2 rfl];rfl
    . have n7:Qd [[(5,O.cells [])]] 0 7=none:=rfl;have ap:Qp Tp (Qf.mt 21) 0 (Qd [[(5,O.cells [])]]) (some 7) 23 23 (.mS 0 5 0 0 (some 0) 1) (.iS cs n f)=some (.val (.mS 0 7 0 n none 1) (some (0,7,.cells cs))):=by
       obtain⟨m,rfl⟩:∃m,n=m+1:=⟨n-1,by omega⟩;have r1:J6 (0+(m+1)) b=true:=Jg (Zpq (Nat.mul_le_mul (by omega:0+(m+1)<=1100000) hb2) (by decide)) (by omega);have zl:zeroCells Tp 5=some _:=zc5;have gm:=Qez (mt:=Qf.mt 21) (g:=Qd [[(5,O.cells [])]]) (fr:=0) (d:=7) (cs:=cs) (m:=m+1) (n:=1) (chk:=cs) mt7 hsc n7;simp only[Qp,Zu0,sz5,hb,zl,Jp,sc,appendTo,g5,r1];simpa using gm
      simp only[wX,↓Qc,simprocAttr,Tryz.ntmps21,Je Zu0,mt5,Q3,ap,Zu0];refine W.done (End.ret (v:= .mS 0 7 0 n none 1) rfl (.inr ⟨f,7,none,rfl,rfl,?_⟩));rw[Z2 rfl];rfl
 obtain⟨r,K',h,h2⟩:=key;exact⟨r,K',h,h2⟩
theorem Qu3(v:V)(cs:List V)(n:Nat)(hv:Qv 1 v cs n)(hn:n<=1100000)(hsc:cs.all V.scalar=true)(hp:Qo cs=true){fr d:Nat}{H:Heap}(hd:Qd H fr d=none):
 ∃w o,callOp Qf (Qq Tp Qf) 12 fr (some d) 21 [v] H=some (.ret w,hset H fr d o)/\Qae fr d 1 n cs w o/\((v= .nS/\n=0/\cs=[]/\w= .nS/\o= .dead)\/∃f cap,v= .iS cs n f/\w= .mS fr d 0 n cap 1/\o= .cells cs):=
 Qog hp rfl (Zbn v cs n hv hn hsc) (Qa (hv.frz 11) rfl) (fn:=12) rfl rfl hd
theorem bybQ:(match byt Tp 64 with|some b=>decide (b<=1024)|none=>false)=true:=by kernel_rfl
theorem bycQ:∃b,byt Tp 64=some b/\b<=1024:=by
 have h:=bybQ;cases hb:byt Tp 64 with
 |none=>rw[hb] at h;cases h
 |some b=>rw[hb] at h;exact⟨b,rfl,of_decide_eq_true h⟩
theorem apP0{mt:Nat->Bool}{fr:Nat}{g:Get}{cs:List V}(hc:cs.length=19)(hp:Qo cs=true)(hm:mt 36=false)(hg:g fr 36=none):Qp Tp mt fr g (some 36) 22 22 .nS (.iS cs 1 true)=some (.val (.gS fr 36 cs 1 19) (some (fr,36,.grow 1))):=by obtain⟨b,hb,hb2⟩:=bycQ;rw[Qbu Zu6 Qs6 hb zc64 rfl Zu6 (cs:=cs) (m:=1) (by simp[Qj,hc]) (by decide) (Jg (by omega) (by omega)),Bc hm hp hg]
theorem apP1{mt:Nat->Bool}{fr fr' :Nat}{g:Get}{c0 cs:List V}{k:Nat}(hc:cs.length=19)(hp:Qo cs=true)(hs:cs.all V.scalar=true)(hk:k<=1100000)(hg:g fr 36=some (.grow k)):Qp Tp mt fr' g (some 36) 22 22 (.gS fr 36 c0 k 19) (.iS cs 1 true)=some (.val (.gS fr 36 (c0++cs) (k+1) 19) (some (fr,36,.grow (k+1)))):=by obtain⟨b,hb,hb2⟩:=bycQ;refine Qca Zu6 Qs6 hb zc64 rfl Zu6 (cs:=cs) (m:=1) (by simp[Qj,hc]) (by decide) (Jg ?_ (by omega)) hp hs hg;have:(k+1)*b<=(k+1)*1024:=Nat.mul_le_mul_left _ hb2;omega
structure Qmx(X:Bv):Prop where
 each:∀p∈X.pools,Q32 p
 pools:X.pools.length<=1100000
 stream:X.stream.length<=1100000
 seed:X.seed.length<=1100000
theorem Q3t{bv wv sv mv lv kv ov cv:V}{x:Yj}(h:Yh bv wv sv mv lv kv ov cv x):bv.pure=true/\wv.pure=true/\sv.pure=true/\mv.pure=true/\lv.pure=true/\kv.pure=true/\ov.pure=true/\cv.pure=true:=by obtain⟨_,_,h1⟩:=h.blocks;obtain⟨_,_,h2⟩:=h.waits;obtain⟨_,_,h5⟩:=h.lines;obtain⟨_,_,h6⟩:=h.keys;obtain⟨_,_,h7⟩:=h.loaded;obtain⟨_,_,h8⟩:=h.changes;exact⟨h1.pure,h2.pure,Qv.pure h.space,Qv.pure h.own,h5.pure,h6.pure,h7.pure,h8.pure⟩
def Qh0(fr:Nat)(l:List Yj)(pw:V)(F36:AM.Frame):Prop:=(l=[]/\pw= .nS/\F36=[])\/∃cs,Xi cs l/\0<l.length/\pw= .gS fr 36 cs l.length 19/\F36=[(36,.grow l.length)]
abbrev Yn(xc:List V)(F5:AM.Frame)(so d0:O)(pw tw dw:V)(n:Int)(F36:AM.Frame):AM.Frame:=(1,.cells xc)::(F5++[(8,so),(12,d0),(19,.cells (Qt pw tw dw n))]++F36)
structure Qi5(fr:Nat)(X:Bv)(xc:List V)(F5:AM.Frame)(so d0:O)(pw tw dw:V)(F36:AM.Frame):Prop where
 xr:∀q,Qh q xc=false
 f5:F5=[]\/∃c,F5=[(5,.cells c)]/\∀q,Qh q c=false
 stream:Qae fr 8 1 X.stream.length (Qb X.stream) tw so
 seed:Qae fr 12 1 X.seed.length (Qb X.seed) dw d0
 pools:Qh0 fr X.pools pw F36
section
variable {pv tv dv : V} {X : Bv}
set_option maxHeartbeats 8000000 in
theorem Q8g(C:AM.Frame)(hC:Q0 (fun f _=>Nat.ble 1 f) C=true)(h:Yu pv tv dv X)(sm:Qmx X)(f:X.Fits):
 CW Tp Qf 12 [.agg (Qt pv tv dv X.spent)] [C] fun r H' =>r= .ret (.ptr 1 19 0)/\∃so d0 pw tw dw F36,Qi5 1 X (Qt pv tv dv X.spent) [] so d0 pw tw dw F36/\H' =[C,Yn (Qt pv tv dv X.spent) [] so d0 pw tw dw X.spent F36]:=by
 refine Ye Tryz.func12 rfl ?_;obtain⟨pcs,hpc,hpv⟩:=id h.pools;have lp:=hpv.len Zu6;obtain⟨s1,s2,s3⟩:=Qbt h;have k1:=Ko h.stream;have k2:=Ko h.seed;have pr:=fun q=>Qma h X.spent q;have fp:=sm.pools;obtain⟨tw,so,hs1,hs2,hs3⟩:=Qu3 tv (Qb X.stream) _ h.stream sm.stream (Z5 _) (Kt _) (fr:=1) (d:=8) (H:=[C,[(1,.cells (Qt pv tv dv X.spent))]]) rfl;obtain⟨dw,d0,hd1,hd2,hd3⟩:=Qu3 dv (Qb X.seed) _ h.seed sm.seed (Z5 _) (Kt _) (fr:=1) (d:=12) (H:=[C,[(1,.cells (Qt pv tv dv X.spent)),(8,so)]]) rfl;simp only[Qt,wH,simprocAttr,if_true,if_false] at hs1 hd1⊢;have v1:=hs2.sc;have v2:=hd2.sc;have v3:=hs2.cells;have v4:=hd2.cells;simp only[wX,↓Qc,simprocAttr,Tryz.ntmps12,hs1,hd1,lp,s1,s2,s3,v1,v2,v3,v4];refine W.opsT (by
  rcases hs3 with⟨rfl,n0,m0,rfl,rfl⟩|⟨f0,cap,rfl,rfl,rfl⟩
  all_goals rcases hd3 with⟨rfl,n1,m1,rfl,rfl⟩|⟨f1,cap1,rfl,rfl,rfl⟩
  all_goals kernel_rfl) ?_
 simp only[wA,↓Qc,simprocAttr,ta,wH,wZ,lp,s1,s2,s3,v1,v2,v3,v4];clear hs3 hd3 hs1 hd1;refine W.ul ?_;refine W.loop (fun(i:Nat) t H=>∃F5 pw F36,(F5=[]\/∃c,F5=[(5,O.cells c)]/\∀q,Qh q c=false)/\Qh0 1 (X.pools.take i) pw F36/\Jj [3,21,22,23] t 0=Qmu (.ptr 1 19 0) pv (.int .i64 X.pools.length) (.int .i64 i)/\i<=X.pools.length/\
  H=[C,Yn (Qt pv tv dv X.spent) F5 so d0 pw tw dw X.spent F36]) (fun i=>X.pools.length-i) ?_ 0 ⟨[],.nS,[],.inl rfl,.inl ⟨rfl,rfl,rfl⟩,rfl,Zr9 _,rfl⟩
 rintro i t H ⟨F5,pw,F36,hF5,hpw,ht,hi,rfl⟩;have pvr:∀q,pv.refs q=false:=fun q=>hpv.noRefs q;have tvr:∀q,tv.refs q=false:=fun q=>Qv.noRefs h.stream q;have dvr:∀q,dv.refs q=false:=fun q=>Qv.noRefs h.seed q;have oc:∀(q:Nat->Nat->Bool) (cs:List V),(O.cells cs).refs q=Qh q cs:=fun _ _=>rfl;have hown:∀(w:V) (o:O) (d n:Nat) (cs:List V),(∀q,Qh q cs=false)->Qae 1 d 1 n cs w o->(d=8\/d=12)->w.refs (fun f s=>f==1&&[5].contains s)=false/\o.refs (fun f s=>f==1&&[5].contains s)=false:=by
  rintro w o d n cs hcs (⟨_,_,rfl,rfl⟩|⟨cap,rfl,rfl⟩) hd
  . exact⟨rfl,rfl⟩
  . refine⟨?_,hcs _⟩;rcases hd with rfl|rfl<;>rfl
 obtain⟨o1,o2⟩:=hown _ _ _ _ _ (fun q=>Kr q _) hs2 (.inl rfl);obtain⟨o3,o4⟩:=hown _ _ _ _ _ (fun q=>Kr q _) hd2 (.inr rfl);have hpr:pw.refs (fun f s=>f==1&&[5].contains s)=false:=by
  rcases hpw with⟨_,rfl,_⟩|⟨cs,hcs,_,rfl,_⟩
  . rfl
  . simp only[V.refs,(Qip (fun f s=>f==1&&[5].contains s) hcs).2.1];rfl
 have h36:Q0 (fun f s=>f==1&&[5].contains s) F36=true:=by rcases hpw with⟨_,_,rfl⟩|⟨cs,_,_,_,rfl⟩<;>rfl
 have hmod:∀G:AM.Frame,G=Yn (Qt pv tv dv X.spent) F5 so d0 pw tw dw X.spent F36->List.modify [C,G] 1 (Jk fun s=>[5].contains s)=[C,Yn (Qt pv tv dv X.spent) [] so d0 pw tw dw X.spent F36]:=by rintro G rfl;rcases hF5 with rfl|⟨c,rfl,_⟩<;>rcases hpw with⟨_,_,rfl⟩|⟨cs,_,_,_,rfl⟩<;>rfl
 have hC8:Q0 (fun f s=>f==1&&[5].contains s) C=true:=Be (fun a b hab=>by
  simp only[Zqf,beq_iff_eq] at hab
  simp[hab.1]) C hC
 have hfor:forget Qf 12 1 3 t [C,Yn (Qt pv tv dv X.spent) F5 so d0 pw tw dw X.spent F36]=
  some (Jj [3,21,22,23] t 0,[C,Yn (Qt pv tv dv X.spent) [] so d0 pw tw dw X.spent F36]):=by
  rw[Zq (kt:=[3,21,22,23]) (ds:=[5]) rfl,hmod _ rfl]
  . rw[ht];simp only[Qmu,Qh,V.refs,pvr];rfl
  . rw[hmod _ rfl];simp only[Zb,hC8,Q0,Yn,Zrg,Zqo,oc,o2,o4,h36,Qt,Qh,V.refs,pvr,tvr,dvr,hpr,o1,o3,Zsl,Zsi,Zrs,Zrw]
 refine⟨_,_,hfor,?_⟩;rw[ht];clear hfor hmod hF5 ht;simp only[Qmu,Yn,Qt,Zrg,Zqo];have key:i<X.pools.length\/¬i<X.pools.length:=Classical.em _;rcases key with h0|h0
 . have c1:decide ((i:Int)<X.pools.length)=true:=Zsw (by omega);have wi:(IntKind.i64).wrap ((i:Int)+1)=((i+1:Nat):Int):=by rw[wrap_i64]<;>omega
   have at1:=hpv.at (k:= .i64) Zu6 Qs6 (by decide) (i:=(i:Int)) (by omega) (by omega);obtain⟨bv,wv,sv,mv,lv,kv,ov,cv,hx,ld1⟩:=Qeu hpc h0;have hmem:=Zrt h0;obtain⟨m,⟨bv',wv',sv',mv',lv',kv',ov',cv',rfl,hx'⟩,hm⟩:=(Qk8 hx (f.each _ hmem) (sm.each _ hmem)).op (by rfl) (Qa (Qe0 hx _) rfl);have hm1:∀s H,_:=fun s H=>hm 12 1 s H rfl;obtain⟨y1,y2,y3,y4,y5,y6,y7,y8⟩:=Qbr hx;obtain⟨z1,z2,z3,z4,z5,z6,z7,z8⟩:=Qbr hx';obtain⟨a1,a2,a3⟩:=Qhx hx' (fun _ _=>false);have rx:=fun q=>(Qhx hx q).2.1;have hap:=hpc;have htk:X.pools.take (i+1)=X.pools.take i++[X.pools[i]]:=Zr6 h0;have hln:(X.pools.take i).length=i:=by rw[Zqj];omega
   have hl19:(Qy bv' wv' sv' mv' lv' kv' ov' cv' X.pools[i].p).length=19:=rfl;have mt36:Qf.mt 12 36=false:=Qej (by decide) rfl;have mt35:Qf.mt 12 35=false:=Qej (by decide) rfl;obtain⟨x1,x2,x3,x4,x5,x6,x7,x8⟩:=Q3t hx';rcases hpw with⟨e0,rfl,rfl⟩|⟨cs,hcs,hpos,rfl,rfl⟩
   . have ap:∀g:Get,g 1 36=none->Qp Tp (Qf.mt 12) 1 g (some 36) 22 22 .nS (.iS (Qy bv' wv' sv' mv' lv' kv' ov' cv' X.pools[i].p) 1 true)=_:=fun g hg=>apP0 hl19 a3 mt36 hg;have res:Qh0 1 (X.pools.take (i+1)) (.gS 1 36 (Qy bv' wv' sv' mv' lv' kv' ov' cv' X.pools[i].p) 1 19) [(36,.grow 1)]:=by
      rw[htk,e0];exact .inr ⟨_,by simpa using (Xi.app (l:=[]) rfl hx'),by simp,rfl,rfl⟩
     simp only[Qy] at ld1 hm1 ap;simp only[wX,↓Qc,simprocAttr,c1,wi,at1,ld1,hm1,ap,Q3,mt35,mt36,x1,x2,x3,x4,x5,x6,x7,x8,Zrw,Zu6,lp,s1,s2,s3,v1,v2,v3,v4,y1,y2,y3,y4,y5,y6,y7,y8,z1,z2,z3,z4,z5,z6,z7,z8];refine W.opsT (by kernel_rfl) ?_;simp only[wX,↓Qc,simprocAttr,wi,lp,s1,s2,s3,v1,v2,v3,v4];exact W.done ⟨i+1,⟨_,_,_,.inr ⟨_,rfl,rx⟩,res,rfl,by omega,rfl⟩,by omega⟩
   . rw[hln] at*;have ap:∀g:Get,g 1 36=some (.grow i)->Qp Tp (Qf.mt 12) 1 g (some 36) 22 22 (.gS 1 36 cs i 19) (.iS (Qy bv' wv' sv' mv' lv' kv' ov' cv' X.pools[i].p) 1 true)=_:=fun g hg=>apP1 hl19 a3 a1 (by omega) hg;have res:Qh0 1 (X.pools.take (i+1)) (.gS 1 36 (cs++Qy bv' wv' sv' mv' lv' kv' ov' cv' X.pools[i].p) (i+1) 19) [(36,.grow (i+1))]:=by
      have:(X.pools.take (i+1)).length=i+1:=by rw[Zqj];omega
      exact .inr ⟨_,by rw[htk];exact hcs.app hx',by omega,by rw[this],by rw[this]⟩
     simp only[Qy] at ld1 hm1 ap;simp only[wX,↓Qc,simprocAttr,c1,wi,at1,ld1,hm1,ap,Q3,mt35,mt36,x1,x2,x3,x4,x5,x6,x7,x8,Zrw,Zu6,lp,s1,s2,s3,v1,v2,v3,v4,y1,y2,y3,y4,y5,y6,y7,y8,z1,z2,z3,z4,z5,z6,z7,z8];refine W.opsT (by kernel_rfl) ?_;simp only[wX,↓Qc,simprocAttr,wi,lp,s1,s2,s3,v1,v2,v3,v4];exact W.done ⟨i+1,⟨_,_,_,.inr ⟨_,rfl,rx⟩,res,rfl,by omega,rfl⟩,by omega⟩
 . have c1:decide ((i:Int)<X.pools.length)=false:=Zsx (by omega);rw[Zr8 (by omega)] at hpw;simp only[wX,↓Qc,simprocAttr,c1,lp,s1,s2,s3,v1,v2,v3,v4];refine W.done ?_;simp only[wX,↓Qc,simprocAttr,lp,s1,s2,s3,v1,v2,v3,v4];refine W.done (End.ret (v:= .ptr 1 19 0) rfl ⟨rfl,so,d0,pw,tw,dw,F36,⟨pr,.inl rfl,hs2,hd2,hpw⟩,?_⟩);rw[Z2 (by simp[V.refs])]
end
section
variable {pv tv dv : V} {X : Bv}
set_option maxHeartbeats 8000000 in
theorem Q7w(C:AM.Frame)(D:AM.Frame)(hC:Q0 (fun f _=>Nat.ble 1 f) C=true)(hD:Q0 (fun f _=>Nat.ble 2 f) D=true)(h:Yu pv tv dv X)(sm:Qmx X)(f:X.Fits):
 CW Tp Qf 12 [.agg (Qt pv tv dv X.spent)] [C,D] fun r H' =>r= .ret (.ptr 2 19 0)/\∃so d0 pw tw dw F36,Qi5 2 X (Qt pv tv dv X.spent) [] so d0 pw tw dw F36/\H' =[C,D,Yn (Qt pv tv dv X.spent) [] so d0 pw tw dw X.spent F36]:=by
 refine Ye Tryz.func12 rfl ?_;obtain⟨pcs,hpc,hpv⟩:=id h.pools;have lp:=hpv.len Zu6;obtain⟨s1,s2,s3⟩:=Qbt h;have k1:=Ko h.stream;have k2:=Ko h.seed;have pr:=fun q=>Qma h X.spent q;have fp:=sm.pools;obtain⟨tw,so,hs1,hs2,hs3⟩:=Qu3 tv (Qb X.stream) _ h.stream sm.stream (Z5 _) (Kt _) (fr:=2) (d:=8) (H:=[C,D,[(1,.cells (Qt pv tv dv X.spent))]]) rfl;obtain⟨dw,d0,hd1,hd2,hd3⟩:=Qu3 dv (Qb X.seed) _ h.seed sm.seed (Z5 _) (Kt _) (fr:=2) (d:=12) (H:=[C,D,[(1,.cells (Qt pv tv dv X.spent)),(8,so)]]) rfl;simp only[Qt,wH,simprocAttr,if_true,if_false] at hs1 hd1⊢;have v1:=hs2.sc;have v2:=hd2.sc;have v3:=hs2.cells;have v4:=hd2.cells;simp only[wX,↓Qc,simprocAttr,Tryz.ntmps12,hs1,hd1,lp,s1,s2,s3,v1,v2,v3,v4];refine W.opsT (by
  rcases hs3 with⟨rfl,n0,m0,rfl,rfl⟩|⟨f0,cap,rfl,rfl,rfl⟩
  all_goals rcases hd3 with⟨rfl,n1,m1,rfl,rfl⟩|⟨f1,cap1,rfl,rfl,rfl⟩
  all_goals kernel_rfl) ?_
 simp only[wA,↓Qc,simprocAttr,ta,wH,wZ,lp,s1,s2,s3,v1,v2,v3,v4];clear hs3 hd3 hs1 hd1;refine W.ul ?_;refine W.loop (fun(i:Nat) t H=>∃F5 pw F36,(F5=[]\/∃c,F5=[(5,O.cells c)]/\∀q,Qh q c=false)/\Qh0 2 (X.pools.take i) pw F36/\Jj [3,21,22,23] t 0=Qmu (.ptr 2 19 0) pv (.int .i64 X.pools.length) (.int .i64 i)/\i<=X.pools.length/\
  H=[C,D,Yn (Qt pv tv dv X.spent) F5 so d0 pw tw dw X.spent F36]) (fun i=>X.pools.length-i) ?_ 0 ⟨[],.nS,[],.inl rfl,.inl ⟨rfl,rfl,rfl⟩,rfl,Zr9 _,rfl⟩
 rintro i t H ⟨F5,pw,F36,hF5,hpw,ht,hi,rfl⟩;have pvr:∀q,pv.refs q=false:=fun q=>hpv.noRefs q;have tvr:∀q,tv.refs q=false:=fun q=>Qv.noRefs h.stream q;have dvr:∀q,dv.refs q=false:=fun q=>Qv.noRefs h.seed q;have oc:∀(q:Nat->Nat->Bool) (cs:List V),(O.cells cs).refs q=Qh q cs:=fun _ _=>rfl;have hown:∀(w:V) (o:O) (d n:Nat) (cs:List V),(∀q,Qh q cs=false)->Qae 2 d 1 n cs w o->(d=8\/d=12)->w.refs (fun f s=>f==2&&[5].contains s)=false/\o.refs (fun f s=>f==2&&[5].contains s)=false:=by
  rintro w o d n cs hcs (⟨_,_,rfl,rfl⟩|⟨cap,rfl,rfl⟩) hd
  . exact⟨rfl,rfl⟩
  . refine⟨?_,hcs _⟩;rcases hd with rfl|rfl<;>rfl
 obtain⟨o1,o2⟩:=hown _ _ _ _ _ (fun q=>Kr q _) hs2 (.inl rfl);obtain⟨o3,o4⟩:=hown _ _ _ _ _ (fun q=>Kr q _) hd2 (.inr rfl);have hpr:pw.refs (fun f s=>f==2&&[5].contains s)=false:=by
  rcases hpw with⟨_,rfl,_⟩|⟨cs,hcs,_,rfl,_⟩
  . rfl
  . simp only[V.refs,(Qip (fun f s=>f==2&&[5].contains s) hcs).2.1];rfl
 have h36:Q0 (fun f s=>f==2&&[5].contains s) F36=true:=by rcases hpw with⟨_,_,rfl⟩|⟨cs,_,_,_,rfl⟩<;>rfl
 have hmod:∀G:AM.Frame,G=Yn (Qt pv tv dv X.spent) F5 so d0 pw tw dw X.spent F36->List.modify [C,D,G] 2 (Jk fun s=>[5].contains s)=[C,D,Yn (Qt pv tv dv X.spent) [] so d0 pw tw dw X.spent F36]:=by rintro G rfl;rcases hF5 with rfl|⟨c,rfl,_⟩<;>rcases hpw with⟨_,_,rfl⟩|⟨cs,_,_,_,rfl⟩<;>rfl
 have hC8:Q0 (fun f s=>f==2&&[5].contains s) C=true:=Be (fun a b hab=>by
  simp only[Zqf,beq_iff_eq] at hab
  simp[hab.1]) C hC
 have hD8:Q0 (fun f s=>f==2&&[5].contains s) D=true:=Be (fun a b hab=>by
  simp only[Zqf,beq_iff_eq] at hab
  simp[hab.1]) D hD
 have hfor:forget Qf 12 2 3 t [C,D,Yn (Qt pv tv dv X.spent) F5 so d0 pw tw dw X.spent F36]=
  some (Jj [3,21,22,23] t 0,[C,D,Yn (Qt pv tv dv X.spent) [] so d0 pw tw dw X.spent F36]):=by
  rw[Zq (kt:=[3,21,22,23]) (ds:=[5]) rfl,hmod _ rfl]
  . rw[ht];simp only[Qmu,Qh,V.refs,pvr];rfl
  . rw[hmod _ rfl];simp only[Zb,hC8,hD8,Q0,Yn,Zrg,Zqo,oc,o2,o4,h36,Qt,Qh,V.refs,pvr,tvr,dvr,hpr,o1,o3,Zsl,Zsi,Zrs,Zrw]
 refine⟨_,_,hfor,?_⟩;rw[ht];clear hfor hmod hF5 ht;simp only[Qmu,Yn,Qt,Zrg,Zqo];have key:i<X.pools.length\/¬i<X.pools.length:=Classical.em _;rcases key with h0|h0
 . have c1:decide ((i:Int)<X.pools.length)=true:=Zsw (by omega);have wi:(IntKind.i64).wrap ((i:Int)+1)=((i+1:Nat):Int):=by rw[wrap_i64]<;>omega
   have at1:=hpv.at (k:= .i64) Zu6 Qs6 (by decide) (i:=(i:Int)) (by omega) (by omega);obtain⟨bv,wv,sv,mv,lv,kv,ov,cv,hx,ld1⟩:=Qeu hpc h0;have hmem:=Zrt h0;obtain⟨m,⟨bv',wv',sv',mv',lv',kv',ov',cv',rfl,hx'⟩,hm⟩:=(Qk8 hx (f.each _ hmem) (sm.each _ hmem)).op (by rfl) (Qa (Qe0 hx _) rfl);have hm1:∀s H,_:=fun s H=>hm 12 2 s H rfl;obtain⟨y1,y2,y3,y4,y5,y6,y7,y8⟩:=Qbr hx;obtain⟨z1,z2,z3,z4,z5,z6,z7,z8⟩:=Qbr hx';obtain⟨a1,a2,a3⟩:=Qhx hx' (fun _ _=>false);have rx:=fun q=>(Qhx hx q).2.1;have hap:=hpc;have htk:X.pools.take (i+1)=X.pools.take i++[X.pools[i]]:=Zr6 h0;have hln:(X.pools.take i).length=i:=by rw[Zqj];omega
   have hl19:(Qy bv' wv' sv' mv' lv' kv' ov' cv' X.pools[i].p).length=19:=rfl;have mt36:Qf.mt 12 36=false:=Qej (by decide) rfl;have mt35:Qf.mt 12 35=false:=Qej (by decide) rfl;obtain⟨x1,x2,x3,x4,x5,x6,x7,x8⟩:=Q3t hx';rcases hpw with⟨e0,rfl,rfl⟩|⟨cs,hcs,hpos,rfl,rfl⟩
   . have ap:∀g:Get,g 2 36=none->Qp Tp (Qf.mt 12) 2 g (some 36) 22 22 .nS (.iS (Qy bv' wv' sv' mv' lv' kv' ov' cv' X.pools[i].p) 1 true)=_:=fun g hg=>apP0 hl19 a3 mt36 hg;have res:Qh0 2 (X.pools.take (i+1)) (.gS 2 36 (Qy bv' wv' sv' mv' lv' kv' ov' cv' X.pools[i].p) 1 19) [(36,.grow 1)]:=by
      rw[htk,e0];exact .inr ⟨_,by simpa using (Xi.app (l:=[]) rfl hx'),by simp,rfl,rfl⟩
     simp only[Qy] at ld1 hm1 ap;simp only[wX,↓Qc,simprocAttr,c1,wi,at1,ld1,hm1,ap,Q3,mt35,mt36,x1,x2,x3,x4,x5,x6,x7,x8,Zrw,Zu6,lp,s1,s2,s3,v1,v2,v3,v4,y1,y2,y3,y4,y5,y6,y7,y8,z1,z2,z3,z4,z5,z6,z7,z8];refine W.opsT (by kernel_rfl) ?_;simp only[wX,↓Qc,simprocAttr,wi,lp,s1,s2,s3,v1,v2,v3,v4];exact W.done ⟨i+1,⟨_,_,_,.inr ⟨_,rfl,rx⟩,res,rfl,by omega,rfl⟩,by omega⟩
   . rw[hln] at*;have ap:∀g:Get,g 2 36=some (.grow i)->Qp Tp (Qf.mt 12) 2 g (some 36) 22 22 (.gS 2 36 cs i 19) (.iS (Qy bv' wv' sv' mv' lv' kv' ov' cv' X.pools[i].p) 1 true)=_:=fun g hg=>apP1 hl19 a3 a1 (by omega) hg;have res:Qh0 2 (X.pools.take (i+1)) (.gS 2 36 (cs++Qy bv' wv' sv' mv' lv' kv' ov' cv' X.pools[i].p) (i+1) 19) [(36,.grow (i+1))]:=by
      have:(X.pools.take (i+1)).length=i+1:=by rw[Zqj];omega
      exact .inr ⟨_,by rw[htk];exact hcs.app hx',by omega,by rw[this],by rw[this]⟩
     simp only[Qy] at ld1 hm1 ap;simp only[wX,↓Qc,simprocAttr,c1,wi,at1,ld1,hm1,ap,Q3,mt35,mt36,x1,x2,x3,x4,x5,x6,x7,x8,Zrw,Zu6,lp,s1,s2,s3,v1,v2,v3,v4,y1,y2,y3,y4,y5,y6,y7,y8,z1,z2,z3,z4,z5,z6,z7,z8];refine W.opsT (by kernel_rfl) ?_;simp only[wX,↓Qc,simprocAttr,wi,lp,s1,s2,s3,v1,v2,v3,v4];exact W.done ⟨i+1,⟨_,_,_,.inr ⟨_,rfl,rx⟩,res,rfl,by omega,rfl⟩,by omega⟩
 . have c1:decide ((i:Int)<X.pools.length)=false:=Zsx (by omega);rw[Zr8 (by omega)] at hpw;simp only[wX,↓Qc,simprocAttr,c1,lp,s1,s2,s3,v1,v2,v3,v4];refine W.done ?_;simp only[wX,↓Qc,simprocAttr,lp,s1,s2,s3,v1,v2,v3,v4];refine W.done (End.ret (v:= .ptr 2 19 0) rfl ⟨rfl,so,d0,pw,tw,dw,F36,⟨pr,.inl rfl,hs2,hd2,hpw⟩,?_⟩);rw[Z2 (by simp[V.refs])]
end
end Go.Proofs.YtpdimkonjmoadaaGreatDoor
namespace Go.AM
def Ym(a:Int)(n:Nat):Nat:=(a.tmod n).toNat
def Jw(l:List UInt8)(a:Int)(z:UInt8):List UInt8:=l.set (Ym a l.length) (l.getD (Ym a l.length) 0^^^z)
def B6(l:List UInt8)(a b:Int):Int:=if decide (a<0)||decide (b<0) then 2 else if((l.length:Int)==0) then 6 else 0
def Qe1(l:List UInt8)(a b:Int)(z:UInt8)(so:O):O:=if B6 l a b=0 then .cells (Qb (Jw l a z)) else so
def Zk(e:Int):List V:=[.int .i64 e,.int .i64 0,.nS,.nS,.int .i64 0,.int .u8 0,.int .i64 0,.int .i64 0,.str [],.nS]
def X9(a b:Int):List V:=[.int .u8 5,.int .i64 0,.int .i64 a,.int .i64 b,.int .u8 0,.int .i64 0,.int .i64 0,.int .i64 0,.str [],.str [],.str [],.nS,.nS]
def Zs(x:Int):UInt8:=UInt8.ofNat (x%256).toNat
theorem Qij(l:List UInt8)(a:Int)(z:UInt8):(Jw l a z).length=l.length:=by simp[Jw]
theorem Qty{a:Int}{n:Nat}(h:0<=a)(hn:0<n):Ym a n<n/\(a.tmod n)=((Ym a n:Nat):Int):=by have h1:=Int.tmod_nonneg (n:Int) h;have h2:=Int.tmod_lt_of_pos a (b:=(n:Int)) (by omega);unfold Ym;omega
end Go.AM
namespace Go.Proofs.YtpdimkonjmoadaaGreatDoor
open Go.AM
attribute [local irreducible] U W
theorem Zcw(g:Get)(x:Int):convertV Tp g 3 5 (.int .i64 x)=some (.val (.int .u8 ((Zs x).toNat:Nat)) none):=by
 have w:(IntKind.u8).wrap x=(((Zs x).toNat:Nat):Int):=by rw[IntKind.wrap_u8,Zs,UInt8.toNat_ofNat'];omega
 simp only[convertV,Zu3,Zu10,w]
theorem xor_u8(x y:UInt8):∀p q,Zj Tp .xor 5 p q (.int .u8 ((x.toNat:Nat):Int)) (.int .u8 ((y.toNat:Nat):Int))=some (.int .u8 (((x^^^y).toNat:Nat):Int)):=by
 intro p q;show some (V.int .u8 ((IntKind.u8).wrap (((BitVec.ofInt 8 (x.toNat:Int))^^^(BitVec.ofInt 8 (y.toNat:Int))).toNat:Int)))=_;have e:((BitVec.ofInt 8 (x.toNat:Int))^^^(BitVec.ofInt 8 (y.toNat:Int))).toNat=(x^^^y).toNat:=by
  have h:∀z:UInt8,BitVec.ofInt 8 (z.toNat:Int)=z.toBitVec:=fun z=>by
   apply BitVec.eq_of_toNat_eq;rw[BitVec.toNat_ofInt];have:=z.toNat_lt;show _=z.toNat
   omega
  rw[h,h];rfl
 rw[e];have w:(IntKind.u8).wrap (((x^^^y).toNat:Nat):Int)=((x^^^y).toNat:Nat):=by have:=(x^^^y).toNat_lt;simp only[IntKind.wrap,IntKind.bits,IntKind.signed,Zsh,Zpo,if_false];omega
 rw[w]
theorem Qh6{fr n:Nat}{l:List Yj}{pw:V}{F36:AM.Frame}(h:Qh0 fr l pw F36)(hn:fr<n):pw.refs (fun f _=>Nat.ble n f)=false/\Q0 (fun f _=>Nat.ble n f) F36=true/\pw.scalar=true/\pw.cells=some [pw]:=by
 have e:Nat.ble n fr=false:=by
  cases hb:Nat.ble n fr
  . rfl
  . have:=Zru hb;omega
 rcases h with⟨_,rfl,rfl⟩|⟨cs,hcs,_,rfl,rfl⟩
 . exact⟨rfl,rfl,rfl,rfl⟩
 . refine⟨?_,rfl,rfl,rfl⟩;simp only[V.refs,e,(Qip _ hcs).2.1,Zsl]
theorem Q7j{fr d n m:Nat}{l:List UInt8}{w:V}{o:O}(h:Qae fr d 1 m (Qb l) w o)(hn:fr<n):w.refs (fun f _=>Nat.ble n f)=false/\o.refs (fun f _=>Nat.ble n f)=false:=by
 have e:Nat.ble n fr=false:=by
  cases hb:Nat.ble n fr
  . rfl
  . have:=Zru hb;omega
 rcases h with⟨_,_,rfl,rfl⟩|⟨cap,rfl,rfl⟩
 . exact⟨rfl,rfl⟩
 . exact⟨e,Kr _ _⟩
section
variable {X : Bv} {xc : List V} {so d0 : O} {pw tw dw : V} {F36 : AM.Frame}
theorem Qxe{fr n:Nat}(tp:Qi5 fr X xc [] so d0 pw tw dw F36)(hn:fr<n):Q0 (fun f _=>Nat.ble n f) (Yn xc [] so d0 pw tw dw X.spent F36)=true:=by obtain⟨a1,a2,_,_⟩:=Qh6 tp.pools hn;obtain⟨b1,b2⟩:=Q7j tp.stream hn;obtain⟨c1,c2⟩:=Q7j tp.seed hn;have oc:∀(q:Nat->Nat->Bool) (cs:List V),(O.cells cs).refs q=Qh q cs:=fun _ _=>rfl;simp only[Yn,Zrg,Zqo,Q0,oc,tp.xr,b2,c2,Qt,Qh,V.refs,a1,b1,c1,a2,Zsl,Zrs,Zrw]
theorem Q3s{C:AM.Frame}(hC:Q0 (fun f _=>Nat.ble 1 f) C=true)(tp:Qi5 1 X xc [] so d0 pw tw dw F36):WF [C,Yn xc [] so d0 pw tw dw X.spent F36]:=by show Zb (fun f _=>Nat.ble 2 f) _=true;simp only[Zb,Be (Qlk (by omega:1<=2)) C hC,Qxe (n:=2) tp (by omega),Zrw]
theorem Qi5.turned(tp:Qi5 1 X xc [] so d0 pw tw dw F36)(a b:Int)(z:UInt8):Qi5 1 {X with stream:=if B6 X.stream a b=0 then Jw X.stream a z else X.stream} xc [] (Qe1 X.stream a b z so) d0 pw tw dw F36:=by
 refine⟨tp.xr,tp.f5,?_,tp.seed,tp.pools⟩;unfold Qe1;by_cases h:B6 X.stream a b=0
 . simp only[h,if_true,Qij];rcases tp.stream with⟨h0,h1,rfl,rfl⟩|⟨cap,rfl,rfl⟩
   . exfalso;unfold B6 at h;split at h
     . cases h
     . rw[h0] at h;cases h
   . exact .inr ⟨cap,rfl,rfl⟩
 . simp only[h,if_false];exact tp.stream
set_option maxHeartbeats 8000000 in
theorem Zcc(C:AM.Frame)(hC:Q0 (fun f _=>Nat.ble 1 f) C=true)(tp:Qi5 1 X xc [] so d0 pw tw dw F36)(hl:X.stream.length<=1100000)(a b:Int):
 CW Tp Qf 27 [.ptr 1 19 0,.agg (X9 a b)] [C,Yn xc [] so d0 pw tw dw X.spent F36] fun r H' =>r= .ret (.agg (Zk (B6 X.stream a b)))/\H' =[C,Yn xc [] (Qe1 X.stream a b (Zs b) so) d0 pw tw dw X.spent F36]:=by
 refine Ye Tryz.func27 rfl ?_;have hw0:=Q3s hC tp;have hw1:=Q3s hC (tp.turned a b (Zs b));obtain⟨_,_,p3,p4⟩:=Qh6 tp.pools (by omega:1<2);have lt:=tp.stream.len Zu0;have v1:=tp.stream.sc;have v3:=tp.stream.cells;have v2:=tp.seed.sc;have v4:=tp.seed.cells;have rep:∀e:Int,Qr Tp 36 (Zk e) 0=some (.agg (Zk e)):=fun e=>by rw[rd36];rfl
 have pop:∀(e:Int) (G:AM.Frame) (F2:AM.Frame),WF [C,G]->Bs 2 (.agg (Zk e)) [C,G,F2]=[C,G]:=fun e G F2 hw=>Br (H:=[C,G]) (G:=[F2]) (v:= .agg (Zk e)) rfl hw;cases ca:decide (a<0)
 case true=>
  have te:B6 X.stream a b=2:=by unfold B6;rw[ca];rfl
  have to:Qe1 X.stream a b (Zs b) so=so:=by unfold Qe1;rw[te];rfl
  rw[te,to];simp only[Yn,Qt,X9,Zrg,Zqo];simp only[wX,↓Qc,simprocAttr,Tryz.ntmps27,lt,v1,v2,v3,v4,p3,p4,ca];exact W.done (End.ret (v:= .agg (Zk 2)) (Xw rfl rfl rfl (rep 2)) ⟨rfl,pop _ _ _ hw0⟩)
 cases cb:decide (b<0)
 case true=>
  have te:B6 X.stream a b=2:=by unfold B6;rw[ca,cb];rfl
  have to:Qe1 X.stream a b (Zs b) so=so:=by unfold Qe1;rw[te];rfl
  rw[te,to];simp only[Yn,Qt,X9,Zrg,Zqo];simp only[wX,↓Qc,simprocAttr,Tryz.ntmps27,lt,v1,v2,v3,v4,p3,p4,ca,cb];exact W.done (End.ret (v:= .agg (Zk 2)) (Xw rfl rfl rfl (rep 2)) ⟨rfl,pop _ _ _ hw0⟩)
 cases cn:((X.stream.length:Int)==0)
 case true=>
  have te:B6 X.stream a b=6:=by unfold B6;rw[ca,cb,cn];rfl
  have to:Qe1 X.stream a b (Zs b) so=so:=by unfold Qe1;rw[te];rfl
  rw[te,to];simp only[Yn,Qt,X9,Zrg,Zqo];simp only[wX,↓Qc,simprocAttr,Tryz.ntmps27,lt,v1,v2,v3,v4,p3,p4,ca,cb,cn];exact W.done (End.ret (v:= .agg (Zk 6)) (Xw rfl rfl rfl (rep 6)) ⟨rfl,pop _ _ _ hw0⟩)
 have te:B6 X.stream a b=0:=by unfold B6;rw[ca,cb,cn];rfl
 have to:Qe1 X.stream a b (Zs b) so= .cells (Qb (Jw X.stream a (Zs b))):=by unfold Qe1;rw[te];rfl
 rw[to] at hw1;rw[te,to];have a0:0<=a:=by have:=of_decide_eq_false ca;omega
 have n0:0<X.stream.length:=by have:=cn;simp only[beq_eq_false_iff_ne,ne_eq] at this;omega
 obtain⟨cap,rfl,rfl⟩:∃cap,tw= .mS 1 8 0 X.stream.length cap 1/\so= .cells (Qb X.stream):=by
  rcases tp.stream with⟨h0,_⟩|h
  . omega
  . exact h
 obtain⟨k1,k2⟩:=Qty a0 n0;have rm:∀p q,Zj Tp .rem 3 p q (.int .i64 a) (.int .i64 X.stream.length)=some (.int .i64 ((Ym a X.stream.length:Nat):Int)):=fun p q=>by
  rw[b_rem,<-k2];have:¬((X.stream.length:Int)=0):=by omega
  simp only[Qc9,this,if_false]
 have am:=Qyx (P:=Tp) (u:=23) (e:=5) Zu0 sz5 (f:=1) (s:=8) (o:=0) (len:=X.stream.length) (cap:=cap) (k:= .i64) (i:=((Ym a X.stream.length:Nat):Int)) (by omega) (by omega);have am' :Qu Tp 23 (.mS 1 8 0 X.stream.length cap 1) (.int .i64 ((Ym a X.stream.length:Nat):Int))=some (.ptr 1 8 (Ym a X.stream.length)):=by simpa using am
 have g1:(Qb X.stream)[Ym a X.stream.length]?=some (.int .u8 ((X.stream[Ym a X.stream.length]).toNat:Nat)):=by simp[Qb,k1]
 have fl:Jw X.stream a (Zs b)=X.stream.set (Ym a X.stream.length) (X.stream[Ym a X.stream.length]^^^Zs b):=by unfold Jw;rw[Zsp,Zpk k1];rfl
 have sp:=Qxc X.stream (Ym a X.stream.length) (X.stream[Ym a X.stream.length]^^^Zs b) k1;rw[<-fl] at sp;have xo:=xor_u8 X.stream[Ym a X.stream.length] (Zs b);have cv:=fun g=>Zcw g b;have le1:Ym a X.stream.length+1<=(Qb X.stream).length:=by rw[Za];omega
 generalize Ym a X.stream.length=k at*;generalize X.stream[k]^^^Zs b=z at*;generalize X.stream[k]=y at*;generalize Jw X.stream a (Zs b)=l' at*;simp only[Yn,Qt,X9,Zrg,Zqo] at hw1⊢;simp only[wA,↓Qc,simprocAttr,Tryz.ntmps27,ta,wH,wZ,lt,v1,v2,v3,v4,p3,p4,ca,cb,cn,rm,am',g1,cv,xo,le1,sp];refine W.opsT (by kernel_rfl) ?_;simp only[wA,↓Qc,simprocAttr,ta,wH,wZ,sp];exact W.done (End.ret (v:= .agg (Zk 0)) (Xw rfl rfl rfl (rep 0)) ⟨rfl,pop _ _ _ hw1⟩)
end
end Go.Proofs.YtpdimkonjmoadaaGreatDoor
namespace Go.AM
theorem Qmt{P:Program}{F:Func}{t:List V}{H:Heap}{a b:Nat}{T U:TypeId}{f s o f' s' o' :Nat}{xs ys:List V}{v w:V}(hF:F.results.toList=[.cell a T,.cell b U])(h1:t.getD a .bad= .ptr f s o)(h2:Qd H f s=some (.cells xs))(h3:Qr P T xs o=some v)
 (g1:t.getD b .bad= .ptr f' s' o')(g2:Qd H f' s' =some (.cells ys))(g3:Qr P U ys o' =some w):Qa5 P F t H=some (.tuple [v,w]):=by
 simp only[Qa5,hF,Qgk,Bx,h1,h2,h3,g1,g2,g3]
theorem Qw0{P:Program}{F:Func}{R:V->Prop}{t:List V}{H:Heap}{v:V}(h:Qa5 P F t H=some v)(h1:∃v',frz (Qd H) depth v=some v' /\R v'):Zc P F R .ret t H:=by obtain⟨v',h2,h3⟩:=h1;exact Zc.ret h h2 h3
end Go.AM
namespace Go.Proofs.YtpdimkonjmoadaaGreatDoor
open Go.AM
attribute [local irreducible] U W
def doE(X:Bv)(a b:Int):Int:=if Qaz X then B6 X.stream a b else 8
def doX(X:Bv)(a b:Int)(z:UInt8):Bv:=if doE X a b=0 then{X with stream:=Jw X.stream a z} else X
theorem Qtu{g:Get}{m:Nat}:∀{l:List Yj} {cs:List V},Xi cs l->Qx (frz g (m+1)) cs=some cs
 |[],cs,h=>by
  have:cs=[]:=h;subst this;rfl
 |x::r,_,⟨bv,wv,sv,mv,lv,kv,ov,cv,d,e,h,h2⟩=>by
  subst e;obtain⟨_,_,h1⟩:=h.blocks;obtain⟨_,_,h3⟩:=h.waits;obtain⟨_,_,h5⟩:=h.lines;obtain⟨_,_,h6⟩:=h.keys;obtain⟨_,_,h7⟩:=h.loaded;obtain⟨_,_,h8⟩:=h.changes;simp only[Qy,Zqo,Zrg];exact Qa (h1.frz m) (Qa (h3.frz m) (Qa (Qv.frz h.space m) (Qa rfl (Qa rfl (Qa rfl (Qa rfl (Qa rfl (Qa rfl (Qa rfl (Qa rfl (Qa (Qv.frz h.own m) (Qa (h5.frz m) (Qa (h6.frz m) (Qa (h7.frz m) (Qa (h8.frz m) (Qa rfl (Qa rfl (Qa rfl (Qtu h2)))))))))))))))))))
section
variable {X : Bv} {xc : List V} {so d0 : O} {pw tw dw : V} {F36 : AM.Frame}
theorem Qmw{fr:Nat}(tp:Qi5 fr X xc [] so d0 pw tw dw F36){g:Get}(h8:g fr 8=some so)(h12:g fr 12=some d0)(e:Int):
 ∃pv tv dv,frz g depth (.tuple [.agg (Qt pw tw dw X.spent),.agg (Zk e)])=some (.tuple [.agg (Qt pv tv dv X.spent),.agg (Zk e)])/\Yu pv tv dv X:=by
 obtain⟨pv,e1,f1⟩:∃pv,frz g 10 pw=some pv/\∃cs,Xi cs X.pools/\Qv 19 pv cs X.pools.length:=by
  rcases tp.pools with⟨h0,rfl,_⟩|⟨cs,hcs,_,rfl,_⟩
  . exact⟨.nS,rfl,[],by rw[h0];exact rfl,by rw[h0];exact Qv.nil⟩
  . refine⟨.iS cs X.pools.length false,?_,cs,hcs,by rw[hcs.len],.inr ⟨_,rfl⟩⟩;show Option.map _ (Qx (frz g 9) cs)=_;rw[Qtu hcs];rfl
 obtain⟨tv,e2,f2⟩:=tp.stream.frzI (g:=g) (m:=8) (by rw[Za];omega) (fun _=>h8) (Qbb _ _ (Qa8 _));obtain⟨dv,e3,f3⟩:=tp.seed.frzI (g:=g) (m:=8) (by rw[Za];omega) (fun _=>h12) (Qbb _ _ (Qa8 _));refine⟨pv,tv,dv,?_,⟨f1,f2,f3⟩⟩;have a1:Qx (frz g 10) (Qt pw tw dw X.spent)=some (Qt pv tv dv X.spent):=Qa e1 (Qa e2 (Qa e3 (Qa rfl rfl)));have a2:frz g 11 (.agg (Qt pw tw dw X.spent))=some (.agg (Qt pv tv dv X.spent)):=by show Option.map _ (Qx (frz g 10) (Qt pw tw dw X.spent))=_;rw[a1];rfl
 show Option.map _ (Qx (frz g 11) [.agg (Qt pw tw dw X.spent),.agg (Zk e)])=_;rw[Qa a2 (Qa (y:= .agg (Zk e)) rfl rfl)];rfl
end
abbrev Qce:List V:=[.nF,.func (.func 23) [] [],.func (.func 24) [] [],.func (.func 25) [] [],.func (.func 26) [] [],.func (.func 27) [] [],.func (.func 28) [] [],.func (.func 29) [] [],.func (.func 30) [] []]
theorem Zbf:Fz Tp Qf 13 [] fun r=>r= .agg Qce:=by
 refine Zp Tryz.func13 rfl ?_;have sn:V.nF.scalar=true:=rfl;have bd:Bl Tp 71 [(0,V.nF),(1,.func (.func 23) [] []),(2,.func (.func 24) [] []),(3,.func (.func 25) [] []),(4,.func (.func 26) [] []),(5,.func (.func 27) [] []),(6,.func (.func 28) [] []),(7,.func (.func 29) [] []),(8,.func (.func 30) [] [])]=some (.agg Qce):=by kernel_rfl
 simp only[wX,↓Qc,simprocAttr,Tryz.ntmps13,sn,bd];refine W.done ?_;have rdd:Qr Tp 71 Qce 0=some (.agg Qce):=by rw[rd71];rfl
 refine Zc.ret (v:= .agg Qce) (Xw rfl rfl ?_ rdd) rfl rfl;rfl
section
variable {pv tv dv : V} {X : Bv}
abbrev doF(pc dc z4 z5:List V)(F7:AM.Frame):AM.Frame:=(2,.cells pc)::(3,.cells dc)::(4,.cells z4)::(5,.cells z5)::F7
theorem doF_cl{pc dc z4 z5:List V}{F7:AM.Frame}(h1:∀q,Qh q pc=false)(h2:∀q,Qh q dc=false)(h3:∀q,Qh q z4=false)(h4:∀q,Qh q z5=false)(h5:Q0 (fun f _=>Nat.ble 1 f) F7=true):Q0 (fun f _=>Nat.ble 1 f) (doF pc dc z4 z5 F7)=true:=by simp only[doF,Q0,O.refs,h1,h2,h3,h4,h5,Zrs,Zrw]
abbrev Qny:List V:=[.nS,.nS,.nS,.int .i64 0]
set_option maxHeartbeats 16000000 in
theorem do_fz(h:Yu pv tv dv X)(f:X.Fits)(sm:Qmx X)(a b:Int):Fz Tp Qf 6 [.agg (Qt pv tv dv X.spent),.agg (X9 a b)] fun r=>∃pv' tv' dv',Yu pv' tv' dv' (doX X a b (Zs b))/\r= .tuple [.agg (Qt pv' tv' dv' X.spent),.agg (Zk (doE X a b))]:=by
 refine Zp Tryz.func6 rfl ?_;obtain⟨m,rfl,hm⟩:=(Quw h f).op (by rfl) (Qa (Q8r h _ _) rfl);have hm1:∀s H,_:=fun s H=>hm 6 0 s H rfl;obtain⟨m,rfl,hm⟩:=Zbf.op (by rfl) rfl;have hm2:∀s H,_:=fun s H=>hm 6 0 s H rfl;obtain⟨s1,s2,s3⟩:=Qbt h;have pr:=fun q=>Qma h X.spent q;have rep:∀e:Int,Qr Tp 36 (Zk e) 0=some (.agg (Zk e)):=fun e=>by rw[rd36];rfl
 have rpr:∀(p q r:V) (n:Int),Qr Tp 27 (Qt p q r n) 0=some (.agg (Qt p q r n)):=fun p q r n=>by rw[rd27];rfl
 have cl0:∀F7,Q0 (fun f _=>Nat.ble 1 f) F7=true->Q0 (fun f _=>Nat.ble 1 f) (doF (Qt pv tv dv X.spent) (X9 a b) Qny (Zk 0) F7)=true:=fun F7 h7=>doF_cl pr (fun q=>rfl) (fun q=>rfl) (fun q=>rfl) h7;have tw1:∀F7,Q0 (fun f _=>Nat.ble 1 f) F7=true->∃so d0 pw tw dw F36,Qi5 1 X (Qt pv tv dv X.spent) [] so d0 pw tw dw F36/\
  Qq Tp Qf (some 12) [.agg (Qt pv tv dv X.spent)] [doF (Qt pv tv dv X.spent) (X9 a b) Qny (Zk 0) F7]=some (.ret (.ptr 1 19 0),[doF (Qt pv tv dv X.spent) (X9 a b) Qny (Zk 0) F7,Yn (Qt pv tv dv X.spent) [] so d0 pw tw dw X.spent F36]):=fun F7 h7=>by
  obtain⟨r,H',e1,rfl,so,d0,pw,tw,dw,F36,tp,rfl⟩:=Q8g (doF (Qt pv tv dv X.spent) (X9 a b) Qny (Zk 0) F7) (cl0 F7 h7) h sm f;exact⟨so,d0,pw,tw,dw,F36,tp,e1⟩
 have sn:V.nF.scalar=true:=rfl;have ia:Qu Tp 71 (.ptr 0 7 0) (.int .u8 5)=some (.ptr 0 7 5):=by simp only[Qu,Tryz.underlying71,sz70];rfl
 have c5:∀g,convertV Tp g 5 3 (.int .u8 5)=some (.val (.int .i64 5) none):=fun g=>by simp only[convertV,Zu10,Zu3];rfl
 cases hok:Qaz X
 case false=>
  have ed:doE X a b=8:=by unfold doE;rw[hok];rfl
  have ex:doX X a b (Zs b)=X:=by unfold doX;rw[ed];rfl
  rw[hok] at hm1;rw[ed,ex];obtain⟨so,d0,pw,tw,dw,F36,tp,e1⟩:=tw1 [] rfl;have ht:∀d,callOp Qf (Qq Tp Qf) 6 0 d 12 [.agg (Qt pv tv dv X.spent)] _=_:=fun d=>Qds (ks:=[9,55]) (x:=none) rfl rfl rfl rfl e1 (by intro k hk;simp only[Zpy,List.not_mem_nil,or_false] at hk;rcases hk with rfl|rfl<;>rfl) (fun d hd=>by cases hd);obtain⟨p1,p2,p3,p4⟩:=Qh6 tp.pools (by omega:1<2);have v1:=tp.stream.sc;have v3:=tp.stream.cells;have v2:=tp.seed.sc;have v4:=tp.seed.cells;have hf:∀g:Get,g 1 8=some so->g 1 12=some d0->∃v',frz g depth (.tuple [.agg (Qt pw tw dw X.spent),.agg (Zk 8)])=some v' /\∃pv' tv' dv',Yu pv' tv' dv' X/\v' = .tuple [.agg (Qt pv' tv' dv' X.spent),.agg (Zk 8)]:=fun g h8 h12=>by obtain⟨pv',tv',dv',g1,g2⟩:=Qmw tp (g:=g) h8 h12 8;exact⟨_,g1,pv',tv',dv',g2,rfl⟩
  simp only[Yn,doF,Qt,X9,Zk,Zrg,Zqo,okE] at ht hm1⊢;simp only[wX,↓Qc,simprocAttr,Tryz.ntmps6,hm1,ht,s1,s2,s3,v1,v2,v3,v4,p3,p4];exact W.done (Qw0 (Qmt rfl rfl rfl (rpr _ _ _ _) rfl rfl (rep 8)) (by refine hf _ ?_ ?_<;>rfl))
 rw[hok] at hm1;have c7:Q0 (fun f _=>Nat.ble 1 f) [(7,.cells Qce)]=true:=rfl;obtain⟨so,d0,pw,tw,dw,F36,tp,e1⟩:=tw1 [(7,.cells Qce)] c7;have ht:∀d,callOp Qf (Qq Tp Qf) 6 0 d 12 [.agg (Qt pv tv dv X.spent)] _=_:=fun d=>Qds (ks:=[9,55]) (x:=none) rfl rfl rfl rfl e1 (by intro k hk;simp only[Zpy,List.not_mem_nil,or_false] at hk;rcases hk with rfl|rfl<;>rfl) (fun d hd=>by cases hd);have turn:∀F7,Q0 (fun f _=>Nat.ble 1 f) F7=true->Qq Tp Qf (some 27) [.ptr 1 19 0,.agg (X9 a b)] [doF (Qt pv tv dv X.spent) (X9 a b) Qny (Zk 0) F7,Yn (Qt pv tv dv X.spent) [] so d0 pw tw dw X.spent F36]=
  some (.ret (.agg (Zk (B6 X.stream a b))),[doF (Qt pv tv dv X.spent) (X9 a b) Qny (Zk 0) F7,Yn (Qt pv tv dv X.spent) [] (Qe1 X.stream a b (Zs b) so) d0 pw tw dw X.spent F36]):=fun F7 h7=>by
  obtain⟨r,H',e1,rfl,rfl⟩:=Zcc (doF (Qt pv tv dv X.spent) (X9 a b) Qny (Zk 0) F7) (cl0 F7 h7) tp sm.stream a b;exact e1
 have hn:Qf.news 6 9=some (Zk 0):=rfl;have hu:∀d,callOp Qf (Qq Tp Qf) 6 0 d 27 [.ptr 1 19 0,.agg (X9 a b)] _=_:=fun d=>Qds (ks:=[]) (x:=some 9) rfl rfl rfl rfl (turn [(7,.cells Qce)] c7) (by intro k hk;cases hk) (fun d hd=>by
  cases hd;refine⟨⟨by simp,by simp,rfl⟩,fun cs _ hcs=>?_⟩;rw[hn] at hcs;cases hcs
  exact turn [(7,.cells Qce),(9,.cells (Zk 0))] rfl)
 have tp' :=tp.turned a b (Zs b);generalize hso:Qe1 X.stream a b (Zs b) so=so' at*;obtain⟨p1,p2,p3,p4⟩:=Qh6 tp.pools (by omega:1<2);have v1:=tp.stream.sc;have v3:=tp.stream.cells;have v2:=tp.seed.sc;have v4:=tp.seed.cells;have ed:doE X a b=B6 X.stream a b:=by unfold doE;rw[hok];rfl
 cases he:(B6 X.stream a b==0)
 case false=>
  have hne:B6 X.stream a b≠0:=by simpa using he
  have hb:(B6 X.stream a b !=0)=true:=by simpa using he
  have ex:doX X a b (Zs b)=X:=by unfold doX;rw[ed,if_neg hne]
  rw[ex,ed];have hD:Q0 (fun f _=>Nat.ble 2 f) (Yn (Qt pv tv dv X.spent) [] so' d0 pw tw dw X.spent F36)=true:=by have q:=Qxe (fr:=1) (n:=2) tp' (by decide);exact q
  obtain⟨r,H',e2,rfl,so2,d2,pw2,tw2,dw2,F36',tp2,rfl⟩:=Q7w (doF (Qt pv tv dv X.spent) (X9 a b) Qny (Zk 0) [(7,.cells Qce),(9,.cells (Zk (B6 X.stream a b)))]) (Yn (Qt pv tv dv X.spent) [] so' d0 pw tw dw X.spent F36) (cl0 _ rfl) hD h sm f;have ht2:∀d,callOp Qf (Qq Tp Qf) 6 0 d 12 [.agg (Qt pv tv dv X.spent)] _=_:=fun d=>Qds (ks:=[9,55]) (x:=none) rfl rfl rfl rfl e2 (by intro k hk;simp only[Zpy,List.not_mem_nil,or_false] at hk;rcases hk with rfl|rfl<;>rfl) (fun d hd=>by cases hd);obtain⟨q1,q2,q3,q4⟩:=Qh6 tp2.pools (by omega:2<3);have w1:=tp2.stream.sc;have w3:=tp2.stream.cells;have w2:=tp2.seed.sc;have w4:=tp2.seed.cells;have hf:∀g:Get,g 2 8=some so2->g 2 12=some d2->∃v',frz g depth (.tuple [.agg (Qt pw2 tw2 dw2 X.spent),.agg (Zk (B6 X.stream a b))])=some v' /\∃pv' tv' dv',Yu pv' tv' dv' X/\v' = .tuple [.agg (Qt pv' tv' dv' X.spent),.agg (Zk (B6 X.stream a b))]:=fun g h8 h12=>by obtain⟨pv',tv',dv',g1,g2⟩:=Qmw tp2 (g:=g) h8 h12 (B6 X.stream a b);exact⟨_,g1,pv',tv',dv',g2,rfl⟩
  have rep1:=rep (B6 X.stream a b);generalize B6 X.stream a b=e at*;simp only[Yn,doF,Qt,X9,Zk,Qce,Zrg,Zqo,okE] at ht hm1 hm2 hu ht2⊢;simp only[wX,↓Qc,simprocAttr,Tryz.ntmps6,hm1,hm2,sn,c5,ia,ht,hu,s1,s2,s3,v1,v2,v3,v4,p3,p4];refine W.opsT (by kernel_rfl) ?_;simp only[wX,↓Qc,simprocAttr,hb,ht2,s1,s2,s3,v1,v2,v3,v4,p3,p4,w1,w2,w3,w4,q3,q4];refine W.opsT (by kernel_rfl) ?_;simp only[wX,↓Qc,simprocAttr,hb,ht2,s1,s2,s3,v1,v2,v3,v4,p3,p4,w1,w2,w3,w4,q3,q4];exact W.done (Qw0 (Qmt rfl rfl rfl (rpr _ _ _ _) rfl rfl rep1) (by refine hf _ ?_ ?_<;>rfl))
 have h0:B6 X.stream a b=0:=by simpa using he
 have ex:doX X a b (Zs b)={X with stream:=Jw X.stream a (Zs b)}:=by unfold doX;rw[ed,if_pos h0]
 rw[if_pos h0] at tp';rw[ex,ed,h0];rw[h0] at hu;have hb:((0:Int) !=0)=false:=rfl;have hf:∀g:Get,g 1 8=some so' ->g 1 12=some d0->∃v',frz g depth (.tuple [.agg (Qt pw tw dw X.spent),.agg (Zk 0)])=some v' /\∃pv' tv' dv',Yu pv' tv' dv' {X with stream:=Jw X.stream a (Zs b)}/\v' = .tuple [.agg (Qt pv' tv' dv' X.spent),.agg (Zk 0)]:=fun g h8 h12=>by obtain⟨pv',tv',dv',g1,g2⟩:=Qmw tp' (g:=g) h8 h12 0;exact⟨_,g1,pv',tv',dv',g2,rfl⟩
 simp only[Yn,doF,Qt,X9,Zk,Qce,Zrg,Zqo,okE] at ht hm1 hm2 hu⊢;simp only[wX,↓Qc,simprocAttr,Tryz.ntmps6,hm1,hm2,sn,c5,ia,ht,hu,s1,s2,s3,v1,v2,v3,v4,p3,p4];refine W.opsT (by kernel_rfl) ?_;simp only[wX,↓Qc,simprocAttr,s1,s2,s3,v1,v2,v3,v4,p3,p4];refine W.opsT (by kernel_rfl) ?_;simp only[wX,↓Qc,simprocAttr,s1,s2,s3,v1,v2,v3,v4,p3,p4];exact W.done (Qw0 (Qmt rfl rfl rfl (rpr _ _ _ _) rfl rfl (rep 0)) (by refine hf _ ?_ ?_<;>rfl))
end
end Go.Proofs.YtpdimkonjmoadaaGreatDoor
namespace Go.AM
theorem Q8h{P:Program}{pol:Pol}{f:FuncId}{args:List V}{R:V->Prop}(h:Fz P pol f args R):∃y,R y/\Fz P pol f args fun r=>r=y:=by obtain⟨v,H',v',h1,h2,h3⟩:=h;exact⟨v',h3,v,H',v',h1,h2,rfl⟩
theorem Q75(x z:UInt8):(x^^^z)^^^z=x:=by rw[UInt8.xor_assoc,UInt8.xor_self,UInt8.xor_zero]
theorem Qxo(l:List UInt8)(a:Int)(z:UInt8):Jw (Jw l a z) a z=l:=by
 unfold Jw;simp only[Zqx];by_cases h:Ym a l.length<l.length
 . rw[Zsp,Zsp,List.getElem?_set_self h,Zqs,Zpk h,Zqs,Q75,List.set_set];exact List.set_getElem_self h
 . rw[List.set_eq_of_length_le (by rw[Zqx];omega),List.set_eq_of_length_le (by omega)]
theorem Qwu(x z:UInt8):(x=x^^^z)↔z=0:=by
 constructor
 . intro h;have:x^^^x=x^^^(x^^^z):=by rw[<-h]
   rw[UInt8.xor_self,<-UInt8.xor_assoc,UInt8.xor_self,UInt8.zero_xor] at this;exact this.symm
 . rintro rfl;rw[UInt8.xor_zero]
theorem Q1j{b:Int}(h:0<=b):(Zs b=0)↔b.tmod 256=0:=by
 rw[Int.tmod_eq_emod_of_nonneg h];unfold Zs;constructor
 . intro e;have:=congrArg UInt8.toNat e;simp only[UInt8.toNat_ofNat',UInt8.toNat_zero] at this;omega
 . intro e;rw[e];rfl
theorem Zai{l:List UInt8}{a b:Int}(h0:B6 l a b=0){i:Nat}(hi:i<l.length)(hi' :i<(Jw l a (Zs b)).length):
 (((l[i]'hi).toNat:Int) !=(((Jw l a (Zs b))[i]'hi').toNat:Int))=(((i:Int)==((Ym a l.length:Nat):Int))&&(b.tmod 256 !=0)):=by
 have hb:0<=b:=by
  unfold B6 at h0;split at h0
  . cases h0
  . rename_i h;simp only[Zqu,decide_eq_true_eq,not_or] at h;omega
 by_cases hk:i=Ym a l.length
 . have e1:((i:Int)==((Ym a l.length:Nat):Int))=true:=by rw[<-hk];exact beq_self_eq_true _
   have e2:(Jw l a (Zs b))[i]=l[i]^^^Zs b:=by subst hk;simp only[Jw,List.getElem_set_self,Zsp,Zpk hi,Zqs]
   rw[e1,e2,Zql];rw[Zq7,bne_iff_ne,bne_iff_ne,ne_eq,ne_eq,<-Q1j hb,<-Qwu l[i] (Zs b)];constructor
   . intro h e;exact h (by rw[<-e])
   . intro h e;exact h (UInt8.toNat_inj.1 (by omega))
 . have e1:((i:Int)==((Ym a l.length:Nat):Int))=false:=by
    rw[beq_eq_false_iff_ne];omega
   have e2:(Jw l a (Zs b))[i]=l[i]:=by simp only[Jw];rw[List.getElem_set_ne (by omega)]
   rw[e1,e2,Zsh,bne_self_eq_false]
end Go.AM
namespace Go.Proofs.YtpdimkonjmoadaaGreatDoor
open Go.AM
attribute [local irreducible] U W
noncomputable def lawK:FuncId->Option (List V->Option V):=fun f=>
 if f=4 then some (fun xs=>match xs with|[]=>some (.bool true)|_=>none)
 else if f=5\/f=6\/f=7 then some (BM.fzK Tp Qf f)
 else none
noncomputable def Qg6:Pol:=BM.givenP Qf lawK
theorem Zd7(al:BM.Ans Tp 4 [] (.bool true)):Okay Tp Qg6:=by
 refine BM.givenP_ok okD ?_;intro f k hk xs y h;unfold lawK at hk;split at hk
 . rename_i e;subst e;cases hk;cases xs with
   |nil=>cases h;exact⟨rfl,al⟩
   |cons a b=>cases h
 . split at hk
   . cases hk;exact BM.fzK_ok okD xs y h
   . cases hk
theorem Q55{C:AM.Call}{fn fr:Nat}{d:Option Nat}{H:Heap}:callOp Qg6 C fn fr d 4 [] H=some (.ret (.bool true),H):=
 BM.given_op (k:=fun xs=>match xs with|[]=>some (.bool true)|_=>none) (by unfold lawK;exact if_pos rfl) rfl
theorem Qif{f:FuncId}(hf:f=5\/f=6\/f=7){args:List V}{y:V}(h:Fz Tp Qf f args fun r=>r=y)(hx:Qo args=true)(hy:y.pure=true){C:AM.Call}{fn fr:Nat}{d:Option Nat}{H:Heap}:callOp Qg6 C fn fr d f args H=some (.ret y,H):=by refine BM.given_op (k:=BM.fzK Tp Qf f) ?_ (BM.fzK_eq h hx hy);unfold lawK;rw[if_neg (by rcases hf with rfl|rfl|rfl<;>decide),if_pos hf]
theorem Qf6:Qg6.mt=Qf.mt:=rfl
section
variable {pv tv dv : V} {X : Bv}
theorem Q9u(f:X.Fits)(a b:Int)(z:UInt8):(doX X a b z).Fits:=by
 unfold doX;split
 . exact⟨f.each,f.pools,by rw[show(({X with stream:=Jw X.stream a z}:Bv).stream)=Jw X.stream a z from rfl,Qij];exact f.stream,f.seed⟩
 . exact f
theorem Q4w(f:Qmx X)(a b:Int)(z:UInt8):Qmx (doX X a b z):=by
 unfold doX;split
 . exact⟨f.each,f.pools,by rw[show(({X with stream:=Jw X.stream a z}:Bv).stream)=Jw X.stream a z from rfl,Qij];exact f.stream,f.seed⟩
 . exact f
theorem Q6y(a b:Int)(z:UInt8):(doX X a b z).spent=X.spent:=by unfold doX;split<;>rfl
set_option maxHeartbeats 16000000 in
theorem Zbc(h:Yu pv tv dv X)(f:X.Fits)(sm:Qmx X)(a b:Int):Fz Tp Qg6 3 [.agg (Qt pv tv dv X.spent),.int .i64 a,.int .i64 b] fun r=>r= .bool true:=by
 refine Zp Tryz.func3 rfl ?_;have pp:=Qml h X.spent;have dp:(V.agg (X9 a b)).pure=true:=rfl;have rp:∀e,(V.agg (Zk e)).pure=true:=fun e=>rfl;obtain⟨_,⟨gr,rfl⟩,hG⟩:=Q8h (Q0l h f);have kA:∀fn fr d H,callOp Qg6 (Qq Tp Qg6) fn fr d 4 [] H=_:=fun fn fr d H=>Q55;have kG:∀fn fr d H,callOp Qg6 (Qq Tp Qg6) fn fr d 5 [.agg (Qt pv tv dv X.spent)] H=_:=fun fn fr d H=>Qif (.inl rfl) hG (by simp only[Qo,pp,Zqq]) rfl;obtain⟨s1,s2,s3⟩:=Qbt h;cases gr
 case true=>simp only[Qt] at kG⊢;simp only[wX,↓Qc,simprocAttr,Tryz.ntmps3,Qf6,kA,kG,s1,s2,s3];exact W.done (Zc.ret rfl rfl rfl)
 obtain⟨_,⟨pv1,tv1,dv1,h1,rfl⟩,hD⟩:=Q8h (do_fz h f sm a b);have p1:=Qml h1 X.spent;have kD:∀fn fr d H,callOp Qg6 (Qq Tp Qg6) fn fr d 6 [.agg (Qt pv tv dv X.spent),.agg (X9 a b)] H=_:=fun fn fr d H=>Qif (.inr (.inl rfl)) hD (by simp only[Qo,pp,dp,Zqq]) (by simp only[V.pure,Qo] at p1⊢;simp only[p1,show Qo (Zk (doE X a b))=true from rfl,Zqq]);obtain⟨t1,t2,t3⟩:=Qbt h1;cases he:(doE X a b==0)
 case false=>
  have hne:(doE X a b !=0)=true:=by simpa using he
  generalize doE X a b=e at*;simp only[Qt,X9,Zk] at kG kD⊢;simp only[wX,↓Qc,simprocAttr,Tryz.ntmps3,Qf6,kA,kG,kD,s1,s2,s3,t1,t2,t3,hne];exact W.done (Zc.ret rfl rfl rfl)
 have h0:doE X a b=0:=by simpa using he
 have hok:Qaz X=true:=by
  unfold doE at h0;split at h0
  . assumption
  . cases h0
 have ht:B6 X.stream a b=0:=by unfold doE at h0;rw[if_pos hok] at h0;exact h0
 have eX:doX X a b (Zs b)={X with stream:=Jw X.stream a (Zs b)}:=by unfold doX;rw[if_pos h0]
 have hlen:(Jw X.stream a (Zs b)).length=X.stream.length:=Qij _ _ _;have h01:doE (doX X a b (Zs b)) a b=0:=by
  rw[eX];have e1:Qaz {X with stream:=Jw X.stream a (Zs b)}=true:=by rw[<-hok];simp only[Qaz,Qcq,hlen]
  have e2:B6 (Jw X.stream a (Zs b)) a b=0:=by rw[<-ht];unfold B6;rw[hlen]
  unfold doE;rw[if_pos e1];exact e2
 have eXX:doX (doX X a b (Zs b)) a b (Zs b)=X:=by
  have e:∀Y:Bv,doE Y a b=0->doX Y a b (Zs b)={Y with stream:=Jw Y.stream a (Zs b)}:=fun Y hY=>by unfold doX;rw[if_pos hY]
  rw[e _ h01,eX];show({X with stream:=Jw (Jw X.stream a (Zs b)) a (Zs b)}:Bv)=X;rw[Qxo]
 obtain⟨_,⟨pv2,tv2,dv2,h2,rfl⟩,hD2⟩:=Q8h (do_fz h1 (Q9u f a b _) (Q4w sm a b _) a b);rw[Q6y] at hD2;rw[eXX] at h2;rw[h01] at hD2;have p2:=Qml h2 X.spent;have kD2:∀fn fr d H,callOp Qg6 (Qq Tp Qg6) fn fr d 6 [.agg (Qt pv1 tv1 dv1 X.spent),.agg (X9 a b)] H=_:=fun fn fr d H=>Qif (.inr (.inl rfl)) hD2 (by simp only[Qo,p1,dp,Zqq]) (by simp only[V.pure,Qo] at p2⊢;simp only[p2,show Qo (Zk 0)=true from rfl,Zqq]);obtain⟨u1,u2,u3⟩:=Qbt h2;have kS:∀fn fr d H,callOp Qg6 (Qq Tp Qg6) fn fr d 7 [.agg (Qt pv tv dv X.spent),.agg (Qt pv2 tv2 dv2 X.spent)] H=_:=fun fn fr d H=>Qif (.inr (.inr rfl)) (Q4g h h2 f) (by simp only[Qo,pp,p2,Zqq]) rfl;rw[h0] at kD;have hst:Qk tv1 (Jw X.stream a (Zs b)):=by have:=h1.stream;rw[eX] at this;exact this
 have lt:=h.stream.len Zu0;have lt1:=hst.len Zu0;rw[hlen] at lt1;have c0:((X.stream.length:Int) !=(X.stream.length:Int))=false:=bne_self_eq_false _;have fl:X.stream.length<=9223372036854775807:=f.stream;have hs0:=h.stream;have ha0:0<=a:=by
  unfold B6 at ht;split at ht
  . cases ht
  . rename_i h9;simp only[Zqu,decide_eq_true_eq,not_or] at h9;omega
 simp only[Qt,X9,Zk] at kG kD kD2 kS⊢;simp only[wX,↓Qc,simprocAttr,Tryz.ntmps3,Qf6,kA,kG,kD,kD2,kS,s1,s2,s3,t1,t2,t3,u1,u2,u3,lt,lt1,c0];refine W.ul ?_;refine W.loopS (kt:=[1,2,3,8,12]) rfl (fun i:Nat=>Zaw (.int .i64 a) (.int .i64 b) (.ptr 0 3 0) (.ptr 0 8 0) (.int .i64 i)) (fun _=>[[(3,.cells (Qt pv tv dv X.spent)),(8,.cells (Qt pv1 tv1 dv1 X.spent)),(9,.cells (Zk 0)),(10,.cells (Qt pv2 tv2 dv2 X.spent)),(11,.cells (Zk 0))]])
  (fun i=>i<=X.stream.length) (fun i=>X.stream.length-i) ?_ 0 (Zr9 _) rfl rfl
 intro i hi;simp only[Zaw,Qt,Zk];have key:i<X.stream.length\/¬i<X.stream.length:=Classical.em _;rcases key with h8|h8
 . have c1:decide ((i:Int)<X.stream.length)=true:=Zsw (by omega);have wi:(IntKind.i64).wrap ((i:Int)+1)=((i+1:Nat):Int):=by rw[wrap_i64]<;>omega
   have at1:=hs0.at (k:= .i64) Zu0 sz5 (by decide) (i:=(i:Int)) (by omega) (by omega);have at2:=hst.at (k:= .i64) Zu0 sz5 (by decide) (i:=(i:Int)) (by omega) (by rw[hlen];omega);have h8' :i<(Jw X.stream a (Zs b)).length:=by omega
   have g1:(Qb X.stream)[(i:Int).toNat]?=some (.int .u8 ((X.stream[i]).toNat:Nat)):=by simp[Qb,h8]
   have g1' :(Qb X.stream)[(i:Int).toNat*1]?=some (.int .u8 ((X.stream[i]).toNat:Nat)):=by simpa using g1
   have g2:(Qb (Jw X.stream a (Zs b)))[(i:Int).toNat]?=some (.int .u8 (((Jw X.stream a (Zs b))[i]).toNat:Nat)):=by simp[Qb,h8']
   have g2' :(Qb (Jw X.stream a (Zs b)))[(i:Int).toNat*1]?=some (.int .u8 (((Jw X.stream a (Zs b))[i]).toNat:Nat)):=by simpa using g2
   have fx:=Zai ht h8 h8';obtain⟨k1,k2⟩:=Qty ha0 (by omega:0<X.stream.length);have rm:∀p q,Zj Tp .rem 3 p q (.int .i64 a) (.int .i64 X.stream.length)=some (.int .i64 ((Ym a X.stream.length:Nat):Int)):=fun p q=>by
    rw[b_rem,<-k2];have:¬((X.stream.length:Int)=0):=by omega
    simp only[Qc9,this,if_false]
   have rm2:∀p q,Zj Tp .rem 3 p q (.int .i64 b) (.int .i64 256)=some (.int .i64 (b.tmod 256)):=fun p q=>rfl;have nb:∀x y p,Zj Tp .neq 4 x y (.bool p) (.bool p)=some (.bool false):=fun x y p=>by cases p<;>rfl
   generalize X.stream[i]=y1 at*;generalize(Jw X.stream a (Zs b))[i]=y2 at*;generalize((Ym a X.stream.length:Nat):Int)=kk at*;generalize b.tmod 256=bb at*;cases e1:((i:Int)==kk)<;>cases e2:(bb !=0)
   all_goals
    rw[e1,e2] at fx;simp only[Zrw,Zqq,Bool.and_false,Zsh,Zql] at fx;simp only[wX,↓Qc,simprocAttr,c1,wi,at1,at2,g1,g1',g2,g2',fx,rm,rm2,e1,e2,nb,Qf6,lt,lt1,s1,s2,s3,t1,t2,t3];refine W.opsK1 (by kernel_rfl) ?_;intro _;simp only[wX,↓Qc,simprocAttr,wi,lt,lt1,Qf6,s1,s2,s3,t1,t2,t3];exact W.done ⟨i+1,rfl,rfl,by omega,by omega⟩
 . have c1:decide ((i:Int)<X.stream.length)=false:=Zsx (by omega);simp only[wX,↓Qc,simprocAttr,c1,lt,lt1,Qf6,s1,s2,s3,t1,t2,t3];refine W.done ?_;simp only[wX,↓Qc,simprocAttr,Qf6];exact W.done (Zc.ret rfl rfl rfl)
end
end Go.Proofs.YtpdimkonjmoadaaGreatDoor
end
