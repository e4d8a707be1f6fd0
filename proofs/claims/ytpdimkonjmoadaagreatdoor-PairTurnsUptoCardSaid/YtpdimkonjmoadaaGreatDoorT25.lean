/- This file holds in one the texts TW2, LN1, F10, F14, F15, E13, F16, F17, LN3, TW0; each says at its head what it proves. -/
import Derived.Test.YtpdimkonjmoadaaGreatDoorT18
import Derived.Test.YtpdimkonjmoadaaGreatDoorT23
import Derived.Test.YtpdimkonjmoadaaGreatDoorT24
set_option linter.unusedSimpArgs false
set_option linter.unusedVariables false
section
set_option maxRecDepth 100000
namespace Go.Proofs.YtpdimkonjmoadaaGreatDoor
open Go.AM
attribute [local irreducible] U W
abbrev Z8(bl:List (List UInt8)):List Nat:=bl.map List.length
theorem Qrk(bl:List (List UInt8))(i:Nat):(bl.take i).flatten.length=Qbm (Z8 bl) i:=by rw[List.length_flatten,Qbm,List.map_take]
def B2(bl:List (List UInt8))(i:Nat):List UInt8:=(bl.take i).flatten++zB ((Z8 bl).sum-Qbm (Z8 bl) i)
theorem Q6d(n:Nat):(zB n).length=n:=Zso ..
theorem Qyn(bl:List (List UInt8))(i:Nat):(B2 bl i).length=(Z8 bl).sum:=by have:=Qko (Z8 bl) i;rw[B2,Zqp,Qrk,Q6d];omega
theorem Zct(n k:Nat):(zB n).drop k=zB (n-k):=List.drop_replicate ..
theorem Qt8(bl:List (List UInt8))(i:Nat)(h:i<bl.length):bl[i].length=0\/Qbd (Z8 bl) i=Qbm (Z8 bl) i:=by
 have h1:=Qko (Z8 bl) (i+1);have hi:i<(Z8 bl).length:=by simpa using h
 rw[Xr hi] at h1;have e:(Z8 bl)[i]=bl[i].length:=by simp
 rcases Nat.eq_zero_or_pos bl[i].length with h0|h0
 . exact .inl h0
 . exact .inr (Q3w _ _ (by omega) (by omega))
theorem Q6u(bl:List (List UInt8))(i:Nat)(h:i<bl.length):(B2 bl i).take (Qbd (Z8 bl) i)++bl[i].take (min bl[i].length bl[i].length)++(B2 bl i).drop (Qbd (Z8 bl) i+min bl[i].length bl[i].length)=B2 bl (i+1):=by
 have hi:i<(Z8 bl).length:=by simpa using h
 have e:(Z8 bl)[i]=bl[i].length:=by simp
 rw[Nat.min_self,Zr2];have ft:(bl.take (i+1)).flatten=(bl.take i).flatten++bl[i]:=by rw[Zr6 h,Zsb,Zqv,List.flatten_nil,Zqd]
 rcases Qt8 bl i h with h0|h0
 . have h0' :bl[i]=[]:=Zqh h0;rw[h0',Zqd,Zq4,Zsa,Zqa,B2,B2,ft,h0',Zqd,Xr hi,e,h0,Zsa]
 . rw[h0];have fl:=Qrk bl i;have t1:(B2 bl i).take (Qbm (Z8 bl) i)=(bl.take i).flatten:=by rw[B2];exact Zrx fl
   have t2:(B2 bl i).drop (Qbm (Z8 bl) i+bl[i].length)=zB ((Z8 bl).sum-Qbm (Z8 bl) (i+1)):=by rw[B2,Zry,fl,Zrz (by rw[fl];omega),Zrg,Zct,Xr hi,e];congr 1;omega
   rw[t1,t2,B2,ft]
theorem Zah(bl:List (List UInt8))(i:Nat)(h:i<bl.length):((B2 bl bl.length).drop (Qbd (Z8 bl) i)).take bl[i].length=bl[i]:=by
 rcases Qt8 bl i h with h0|h0
 . rw[h0,List.take_zero,Zqh h0]
 . rw[h0];have key:B2 bl bl.length=(bl.take i).flatten++(bl[i]++((bl.drop (i+1)).flatten++zB ((Z8 bl).sum-Qbm (Z8 bl) bl.length))):=by
    rw[B2,Zr2];have e1:bl=bl.take i++bl[i]::bl.drop (i+1):=by rw[List.getElem_cons_drop,Zqa]
    have e2:bl.flatten=(bl.take i).flatten++(bl[i]++(bl.drop (i+1)).flatten):=by have:=congrArg List.flatten e1;rwa[Zsb,Zqv] at this
    rw[e2];simp
   rw[key,List.drop_left' (Qrk bl i),Zrx rfl]
theorem Qnl(p:Nat->Nat->Bool):∀{l:List (Int×List UInt8)} {cs:List V},Qaj cs l->Qh p cs=false
 |[],cs,h=>by
  have:cs=[]:=h;subst this;rfl
 |x::l,cs,⟨u,d,e,h1,h2⟩=>by
  subst e;have:=Qv.noRefs h1 p;simp only[Qh,V.refs,this,Qnl p h2];rfl
theorem Qp0(g:Get)(m:Nat):∀{l:List (Int×List UInt8)} {cs:List V},Qaj cs l->Qx (AM.frz g (m+1)) cs=some cs
 |[],cs,h=>by
  have:cs=[]:=h;subst this;rfl
 |x::l,cs,⟨u,d,e,h1,h2⟩=>by
  subst e;exact Qa rfl (Qa (h1.frz m) (Qp0 g m h2))
def Ql1(L:List Nat)(i:Nat):V:=if i=0 then .nS else .gS 0 21 (Qm ((L.take i).map fun n:Nat=>(n:Int))) i 1
def T21(n:Nat):AM.Frame:=if n=0 then[] else[(21,.grow n)]
def T58(n:Nat):AM.Frame:=if n=0 then[] else[(58,.grow n)]
def twA(bv wv g o:V)(n i:Nat):AM.Frame:=[(1,.cells [bv,wv]),(2,.cells [g,o])]++(T21 n++T58 i)
def twB(bv wv g o:V)(y:List V)(n i:Nat):AM.Frame:=[(1,.cells [bv,wv]),(2,.cells [g,o]),(9,.cells y)]++(T21 n++T58 i)
def twY(bv wv g o:V)(y:List V)(n i:Nat):AM.Frame:=if i=0 then twA bv wv g o n 0 else twB bv wv g o y n i
def Ku(cs:List V)(i:Nat):V:=if i=0 then .nS else .gS 0 58 cs i 2
theorem Q1d(bv wv:V)(L:List Nat)(i:Nat)(hi:i<L.length)(hn:L.length<1100000):
 Qp Tp (Qf.mt 79) 0 (Qd [twA bv wv .nS .nS i 0]) (some 21) 34 34 (Ql1 L i) (.iS [.int .i64 (L.getD i 0:Nat)] 1 true)=
  some (.val (Ql1 L (i+1)) (some (0,21,.grow (i+1)))):=by
 have g21:Qd [twA bv wv .nS .nS i 0] 0 21=if i=0 then none else some (.grow i):=by
  show Xf (twA bv wv .nS .nS i 0) 21=_;unfold twA T21 T58;by_cases h:i=0
  . simp only[h,if_true];rfl
  . simp only[h,if_false];rfl
 have sc:∀g,Qj g 1 (.iS [.int .i64 (L.getD i 0:Nat)] 1 true)=some ([.int .i64 (L.getD i 0:Nat)],1):=fun g=>rfl;unfold Ql1;rw[if_neg (Zsm i),Zr6 hi,<-Qbs hi];by_cases h:i=0
 . subst h;simp only[if_true] at g21⊢;rw[Qbu Zu2 sz3 by64 zc3 rfl Zu2 (sc _) (by decide) (by decide),Bc rfl rfl g21];rfl
 . simp only[h,if_false] at g21⊢;rw[Qca Zu2 sz3 by64 zc3 rfl Zu2 (sc _) (by decide) (Jg (by omega) (by omega)) rfl rfl g21];simp[Qm]
theorem Q9g(bv wv g o g' o' :V)(n i:Nat)(G:Heap):hset (twA bv wv g o n i::G) 0 2 (.cells [g',o'])=twA bv wv g' o' n i::G:=rfl
theorem Zb1(bv wv g o:V)(y:List V)(n i:Nat):Jk (fun s=>[9].contains s) (twY bv wv g o y n i)=twA bv wv g o n i:=by cases n<;>cases i<;>rfl
theorem Zbb(bv wv g o:V)(n i:Nat)(G:Heap):Qd (twA bv wv g o n i::G) 0 9=none:=by cases n<;>cases i<;>rfl
theorem Zdj(bv wv g o:V)(n i:Nat)(G:Heap)(x:List V):hset (twA bv wv g o n i::G) 0 9 (.cells x)=twB bv wv g o x n i::G:=by cases n<;>cases i<;>rfl
theorem twB_58(bv wv g o:V)(n i:Nat)(G:Heap)(x:List V):Qd (twB bv wv g o x n i::G) 0 58=if i=0 then none else some (.grow i):=by cases n<;>cases i<;>rfl
theorem Q81(bv wv g o:V)(n i:Nat)(G:Heap)(x:List V):hset (twB bv wv g o x n i::G) 0 58 (.grow (i+1))=twB bv wv g o x n (i+1)::G:=by cases n<;>cases i<;>rfl
theorem Q2p(mt:Nat->Bool)(hmt:mt 58=false)(g:Get)(cs:List V)(a:Int)(r:V)(hr:r.pure=true)(hrs:r.scalar=true)(i:Nat)(hi:i<1100000)(h58:g 0 58=if i=0 then none else some (.grow i))(hc:i=0->cs=[]):
 Qp Tp mt 0 g (some 58) 53 53 (Ku cs i) (.iS [.int .i64 a,r] 1 true)=some (.val (Ku (cs++[.int .i64 a,r]) (i+1)) (some (0,58,.grow (i+1)))):=by
 have sc:∀g,Qj g 2 (.iS [.int .i64 a,r] 1 true)=some ([.int .i64 a,r],1):=fun g=>rfl;have hp:Qo [.int .i64 a,r]=true:=by show(V.pure (.int .i64 a)&&(V.pure r&&true))=true;rw[hr];rfl
 have hsc:[V.int .i64 a,r].all V.scalar=true:=by show(V.scalar (.int .i64 a)&&(V.scalar r&&true))=true;rw[hrs];rfl
 unfold Ku;rw[if_neg (Zsm i)];by_cases h:i=0
 . subst h;rw[hc rfl];simp only[if_true] at h58⊢;rw[Qbu Zu4 Qdq byW Qui rfl Zu4 (sc _) (by decide) (by decide),Bc hmt hp h58];rfl
 . simp only[h,if_false] at h58⊢;rw[Qca Zu4 Qdq byW Qui rfl Zu4 (sc _) (by decide) (Jg (by omega) (by omega)) hp hsc h58]
theorem Q2x(L:List Nat){n:Nat}(h:n≠0):Qo (Qbj L n)=false:=by obtain⟨k,rfl⟩:∃k,n=k+1:=⟨n-1,by omega⟩;show Qo ((List.range (k+1)).map fun j=>V.mS 1 20 (Qbd L j) (L.getD j 0) (some (L.getD j 0)) 1)=false;rw[List.range_succ_eq_map];rfl
theorem Qtj(L:List Nat){n i:Nat}(h:i<n):(Qbj L n)[i]?=some (.mS 1 20 (Qbd L i) (L.getD i 0) (some (L.getD i 0)) 1):=by simp[Qbj,h]
set_option maxHeartbeats 8000000 in
theorem Q7t(bv wv:V)(bl:List (List UInt8))(wl:List (Int×List UInt8))(hb:Kf bv bl)(hw:Xh wv wl)(hs:(Z8 bl).sum<=1048576)(hn:bl.length<1100000)(hm:wl.length<1100000)(hd:∀w∈wl,w.2.length<=1100000):
 Fz Tp Qf 79 [.agg [bv,wv]] fun x=>∃bv' wv',x= .agg [bv',wv']/\Kf bv' bl/\Xh wv' wl:=by
 refine Fz.of_cw (Ye Tryz.func79 rfl ?_);obtain⟨bcs,hbc,hbv⟩:=id hb;obtain⟨wcs,hwc,hwv⟩:=id hw;have len:=hbv.len Zu1;have lw:=hwv.len Zu4;have bsc:bv.scalar=true:=Zo hbv;have wsc:wv.scalar=true:=Zo hwv;have lnN:(Z8 bl).length=bl.length:=by simp
 have osc:∀L n,(Qdr L n).scalar=true:=fun L n=>by unfold Qdr;split<;>rfl
 have ocl:∀L n,(Qdr L n).cells=some [Qdr L n]:=fun L n=>by unfold Qdr;split<;>rfl
 simp only[wX,↓Qc,simprocAttr,Tryz.ntmps79,bsc,wsc,len];refine W.ul ?_;refine W.loopS (kt:=[1,2,3,11,12,13]) rfl (fun i:Nat=>Qwd (.ptr 0 1 0) (.ptr 0 2 0) (Ql1 (Z8 bl) i) bv (.int .i64 bl.length) (.int .i64 i)) (fun i=>[twA bv wv .nS .nS i 0]) (fun i=>i<=bl.length) (fun i=>bl.length-i) ?_ 0 (by omega) rfl rfl;rintro i hi;simp only[Qwd];by_cases h:i<bl.length
 . have c1:decide ((i:Int)<bl.length)=true:=Zsw (by omega);have w1:=Y1 (i:=i) (by omega);obtain⟨v,e1,hv⟩:=hbc.at_ h;have g1:bcs[(i:Int).toNat*1]?=some v:=by simpa using e1
   have g2:bcs[(i:Int).toNat]?=some v:=by simpa using e1
   have at1:=hbv.at (k:= .i64) Zu1 Qah (by decide) (i:=(i:Int)) (by omega) (by omega);have lv:=hv.len Zu0;have gl:(Z8 bl).getD i 0=bl[i].length:=by rw[Qbs (by omega)];simp
   have ap:=Q1d bv wv (Z8 bl) i (by omega) (by omega);rw[gl] at ap;have mt20:Qf.mt 79 20=false:=rfl;have s21:hset [twA bv wv .nS .nS i 0] 0 21 (.grow (i+1))=[twA bv wv .nS .nS (i+1) 0]:=by show[J3 (twA bv wv .nS .nS i 0) 21 _]=_;unfold twA T21;rw[if_neg (Zsm i)];split<;>rfl
   simp only[wA,↓Qc,simprocAttr,c1,at1,g1,g2,lv,ta,wB,w1,mt20,Q3,ap,s21,Zu2];exact W.done ⟨i+1,rfl,rfl,by omega,by omega⟩
 have c1:decide ((i:Int)<bl.length)=false:=Zsx (by omega);have hi2:i=bl.length:=by omega
 subst hi2;simp only[wA,↓Qc,simprocAttr,c1];refine W.done ?_;have hwF:WF [twA bv wv .nS .nS bl.length 0]:=by have b1:bv.refs (fun f _=>Nat.ble 1 f)=false:=hbv.noRefs _;have b2:wv.refs (fun f _=>Nat.ble 1 f)=false:=hwv.noRefs _;show Zb (fun f _=>Nat.ble 1 f) [twA bv wv .nS .nS bl.length 0]=true;unfold twA T21 T58;split<;>simp only[Zqo,Zrg,Zqd,if_true,Zb,Q0,O.refs,Qh,V.refs,b1,b2]<;>rfl
 obtain⟨rr,KK,hcall,rfl,rfl⟩:=Zea _ hwF (if bl.length=0 then .nS else .iS (Qm ((Z8 bl).map fun n:Nat=>(n:Int))) bl.length false) (Z8 bl) hs (by omega) (by
  split
  . rename_i h0;have:bl=[]:=Zqh h0;subst this;exact Ke.nil
  . have:=Ke.mk ((Z8 bl).map fun n:Nat=>(n:Int)) false
    rwa[Zp6,lnN] at this)
 rw[lnN] at hcall;have hcall' :callOp Qf (Qq Tp Qf) 79 0 (some 24) 107 [Ql1 (Z8 bl) bl.length] [twA bv wv .nS .nS bl.length 0]=
  some (.ret (Qdr (Z8 bl) bl.length),twA bv wv .nS .nS bl.length 0::twG bl.length (zerosN [.int .u8 0] (Z8 bl).sum)):=by
  refine Qhb rfl rfl rfl (args' :=[if bl.length=0 then .nS else .iS (Qm ((Z8 bl).map fun n:Nat=>(n:Int))) bl.length false]) ?_ hcall;unfold Ql1;split
  . rfl
  . have e:(Z8 bl).take bl.length=Z8 bl:=by rw[<-lnN,Zr2]
    rw[e];show Qx (frz (fun _ _=>none) 12) _=_;have f1:frz (fun _ _=>none) 12 (.gS 0 21 (Qm ((Z8 bl).map fun n:Nat=>(n:Int))) bl.length 1)=(Qx (frz (fun _ _=>none) 11) (Qm ((Z8 bl).map fun n:Nat=>(n:Int)))).map fun cs=> .iS cs bl.length false:=rfl;simp only[Qx,f1,Qdu (fun _ _=>none) 10,Zpl]
 have hZ:zerosN [V.int .u8 0] (Z8 bl).sum=Qb (B2 bl 0):=by rw[Qtf,B2];rfl
 rw[hZ] at hcall';clear hcall hwF;have g1:∀g o n i G,Qd (twA bv wv g o n i::G) 0 1=some (.cells [bv,wv]):=fun _ _ _ _ _=>rfl;have g2:∀g o n i G,Qd (twA bv wv g o n i::G) 0 2=some (.cells [g,o]):=fun _ _ _ _ _=>rfl;generalize hON:Qdr (Z8 bl) bl.length=ON at hcall';have onsc:ON.scalar=true:=by rw[<-hON];exact osc _ _
 have oncl:ON.cells=some [ON]:=by rw[<-hON];exact ocl _ _
 simp only[wA,↓Qc,simprocAttr,hcall',ta,wB,bsc,wsc,len,g1,g2,Q9g,onsc,oncl];refine W.ul ?_;refine W.loopS (kt:=[1,2,27,28,29]) rfl (fun i:Nat=>Qvq (.ptr 0 1 0) (.ptr 0 2 0) bv (.int .i64 bl.length) (.int .i64 i)) (fun i=>twA bv wv ON .nS bl.length 0::twG bl.length (Qb (B2 bl i))) (fun i=>i<=bl.length) (fun i=>bl.length-i) ?_ 0 (by omega) rfl rfl;rintro i hi;simp only[Qvq];by_cases h:i<bl.length
 . have c1:decide ((i:Int)<bl.length)=true:=Zsw (by omega);have w1:=Y1 (i:=i) (by omega);have n0:bl.length≠0:=by omega
   obtain⟨v,e1,hv⟩:=hbc.at_ h;have q1:bcs[(i:Int).toNat*1]?=some v:=by simpa using e1
   have q2:bcs[(i:Int).toNat]?=some v:=by simpa using e1
   have at1:=hbv.at (k:= .i64) Zu1 Qah (by decide) (i:=(i:Int)) (by omega) (by omega);have lv:=hv.len Zu0;have svv:=Zo hv;have gl:(Z8 bl).getD i 0=bl[i].length:=by rw[Qbs (by omega)];simp
   have eON:ON= .gS 1 33 (Qbj (Z8 bl) bl.length) bl.length 1:=by rw[<-hON];unfold Qdr;rw[if_neg n0]
   have at2:=at_r (P:=Tp) (u:=52) (k:= .i64) Zu1 Qah (f:=1) (s:=33) (len:=bl.length) (i:=(i:Int)) (Q2x (Z8 bl) n0) (by omega) (by omega);rw[<-eON] at at2;have gr:(Qbj (Z8 bl) bl.length)[(i:Int).toNat*1]?=some (.mS 1 20 (Qbd (Z8 bl) i) bl[i].length (some bl[i].length) 1):=by rw[show(i:Int).toNat*1=i by omega,Qtj _ h,gl]
   have gr2:(Qbj (Z8 bl) bl.length)[(i:Int).toNat]?=some (.mS 1 20 (Qbd (Z8 bl) i) bl[i].length (some bl[i].length) 1):=by rw[show(i:Int).toNat=i by omega,Qtj _ h,gl]
   have eG:∀D,twG bl.length D=[[(20,.cells D),(33,.grow bl.length)]]:=fun D=>by unfold twG;rw[if_neg n0]
   have ho:Qbd (Z8 bl) i+bl[i].length<=(B2 bl i).length:=by
    rw[Qyn];have h1:=Qko (Z8 bl) (i+1);have h2:=Qu2 (Z8 bl) i (by omega);rw[Xr (by omega)] at h1;have:(Z8 bl)[i]=bl[i].length:=by simp
    omega
   have cp:=Q1q (P:=Tp) (u:=23) Zu0 sz5 (g:=Qd (twA bv wv ON .nS bl.length 0::[[(20,.cells (Qb (B2 bl i))),(33,.grow bl.length)]])) (f:=1) (s:=20) (o:=Qbd (Z8 bl) i) (n:=bl[i].length) (cap:=some bl[i].length) (xs:=B2 bl i) (m:=bl[i]) (v:=v) rfl ho (Qv.sc hv) (Qv.notStr hv);rw[Q6u bl i h] at cp;have s20:∀D o,hset (twA bv wv ON .nS bl.length 0::[[(20,.cells D),(33,.grow bl.length)]]) 1 20 o=twA bv wv ON .nS bl.length 0::[[(20,o),(33,.grow bl.length)]]:=fun _ _=>rfl;simp only[eG];generalize Qbj (Z8 bl) bl.length=R at*;generalize Qb (B2 bl i)=D0 at*;generalize hD1:Qb (B2 bl (i+1))=D1 at*;simp only[wA,↓Qc,simprocAttr,c1,at1,q1,q2,svv,ta,wB,w1,g1,g2,at2,Q3h,gr,gr2,Qoi,cp,s20];exact W.done ⟨i+1,rfl,by rw[hD1],by omega,by omega⟩
 have c1:decide ((i:Int)<bl.length)=false:=Zsx (by omega);have hi2:i=bl.length:=by omega
 subst hi2;simp only[wA,↓Qc,simprocAttr,c1];refine W.done ?_;have hD20:bl.length≠0->∀A:AM.Frame,Qd (A::twG bl.length (Qb (B2 bl bl.length))) 1 20=some (.cells (Qb (B2 bl bl.length))):=fun n0 A=>by unfold twG;rw[if_neg n0];rfl
 have Gr:Zb (fun f s=>f==0&&[9].contains s) (twG bl.length (Qb (B2 bl bl.length)))=true:=by
  unfold twG;split
  . rfl
  . have z:(O.cells (Qb (B2 bl bl.length))).refs (fun f s=>f==0&&[9].contains s)=false:=Ql9 _ (Qa8 _);simp only[Zb,Q0,z];rfl
 generalize hG:twG bl.length (Qb (B2 bl bl.length))=G at Gr hD20⊢;have onr:ON.refs (fun f s=>f==0&&[9].contains s)=false:=by
  rw[<-hON];unfold Qdr;split
  . rfl
  . have:=Qoq (Z8 bl) bl.length (fun f s=>f==0&&[9].contains s) rfl;simp only[V.refs,this];rfl
 have bvr:bv.refs (fun f s=>f==0&&[9].contains s)=false:=hbv.noRefs _;have wvr:wv.refs (fun f s=>f==0&&[9].contains s)=false:=hwv.noRefs _;simp only[wA,↓Qc,simprocAttr,ta,wB,bsc,wsc,len,lw,g1,g2];refine W.ul ?_;refine W.loop (fun(i:Nat) t H=>∃y cs,Qaj cs (wl.take i)/\Jj [2,43,44,45] t 0=Qin (.ptr 0 2 0) wv (.int .i64 wl.length) (.int .i64 i)/\i<=wl.length/\H=twY bv wv ON (Ku cs i) y bl.length i::G/\Qh (fun f s=>f==0&&[9].contains s) y=false) (fun i=>wl.length-i) ?_ 0 ⟨[],[],rfl,rfl,by omega,rfl,rfl⟩ rfl;rintro i t H ⟨y,cs,hcs,ht,hi,rfl,hy⟩;have hd' :(twY bv wv ON (Ku cs i) y bl.length i::G).modify 0 (Jk fun s=>[9].contains s)=twA bv wv ON (Ku cs i) bl.length i::G:=by show Jk _ (twY bv wv ON (Ku cs i) y bl.length i)::G=_;rw[Zb1]
 have or_:(Ku cs i).refs (fun f s=>f==0&&[9].contains s)=false:=by
  unfold Ku;split
  . rfl
  . simp only[V.refs,Qnl _ hcs];rfl
 refine⟨_,_,Zq (kt:=[2,43,44,45]) (ds:=[9]) rfl ?_ ?_,?_⟩
 . show Qh (fun f s=>f==0&&[9].contains s) _=false;rw[ht];simp only[Qin,Qh,V.refs,wvr];rfl
 . show Zb (fun f s=>f==0&&[9].contains s) ((twY bv wv ON (Ku cs i) y bl.length i::G).modify 0 _)=true;rw[hd'];unfold twA T21 T58;split<;>split<;>simp only[Zqo,Zrg,Zqd,Zb,Q0,O.refs,Qh,V.refs,bvr,wvr,onr,or_,Gr]<;>rfl
 rw[ht];show W (U _ _ _ _ _ _ _ _ _ ((twY bv wv ON (Ku cs i) y bl.length i::G).modify 0 _)) _;rw[hd'];simp only[Qin];by_cases h:i<wl.length
 . have c1:decide ((i:Int)<wl.length)=true:=Zsw (by omega);have w1:=Y1 (i:=i) (by omega);obtain⟨e1,v2,e2,hv2⟩:=hwc.at_ h;have at1:=hwv.at (k:= .i64) Zu4 Qdq (by decide) (i:=(i:Int)) (by omega) (by omega);have ldw:Qr Tp 134 wcs ((i:Int).toNat*2)=some (.agg [.int .i64 wl[i].1,v2]):=by
    have hl:=hwv.1;obtain⟨l1,q1⟩:=Zq0.1 e1;obtain⟨l2,q2⟩:=Zq0.1 e2;rw[show(i:Int).toNat*2=2*i by omega,Qtg,if_pos (by omega),Zsn l1,Zrv,Zsn l2,Zrv,List.take_zero,q1,q2]
   have hdi:wl[i].2.length<=1100000:=hd _ (Zrt h);obtain⟨m,hr,hm⟩:=(Qfc v2 _ hv2 hdi).op (by rfl) (Qa (hv2.frz _) rfl);have hm' :∀s H,_:=fun s H=>hm 79 0 s H rfl;have rp:=Qv.pure hr;have sv2:=Zo hv2;have cv2:=Ko hv2;have rs:=Zo hr;have rc:=Ko hr;have scw:∀c j,(Ku c j).scalar=true:=fun c j=>by unfold Ku;split<;>rfl
   have wcl:∀c j,(Ku c j).cells=some [Ku c j]:=fun c j=>by unfold Ku;split<;>rfl
   have mt57:Qf.mt 79 57=false:=rfl;have hc0:i=0->cs=[]:=fun h0=>by subst h0;exact hcs
   have ap:=fun x=>Q2p (Qf.mt 79) rfl (Qd (twB bv wv ON (Ku cs i) x bl.length i::G)) cs wl[i].1 _ rp rs i (by omega) (twB_58 _ _ _ _ _ _ _ _) hc0;have g9:∀g o x n i G,Qd (twB bv wv g o x n i::G) 0 9=some (.cells x):=fun _ _ _ _ _ _=>rfl;have g2b:∀g o x n i G,Qd (twB bv wv g o x n i::G) 0 2=some (.cells [g,o]):=fun _ _ _ _ _ _=>rfl;have s9' :∀g o x n i G z,hset (twB bv wv g o x n i::G) 0 9 (.cells z)=twB bv wv g o z n i::G:=fun _ _ _ _ _ _ _=>rfl;have s2:∀g o x n i G g' o',hset (twB bv wv g o x n i::G) 0 2 (.cells [g',o'])=twB bv wv g' o' x n i::G:=fun _ _ _ _ _ _ _ _=>rfl;have next:Qaj (cs++[.int .i64 wl[i].1,m]) (wl.take (i+1)):=by rw[Zr6 h];exact Qo3 hcs hr
   simp only[wA,↓Qc,simprocAttr,c1,at1,ldw,ta,wB,w1,wcl,new,Zbb,Zdj,s9',g9,g2,g2b,hm',mt57,Q3,ap,Q81,s2,scw,rs,rc,rp,sv2,cv2,Zql,Zrw,Zu4];refine W.opsK (by kernel_rfl) ?_;simp only[wA,↓Qc,simprocAttr,w1];refine W.done ⟨i+1,⟨_,_,next,rfl,by omega,rfl,?_⟩,by omega⟩;have vr2:=Qv.noRefs hv2 (fun f s=>f==0&&[9].contains s);simp only[Qh,V.refs,vr2];rfl
 . have c1:decide ((i:Int)<wl.length)=false:=Zsx (by omega);have hi2:i=wl.length:=by omega
   subst hi2;rw[Zr2] at hcs;simp only[wA,↓Qc,simprocAttr,c1];refine W.done ?_;simp only[wA,↓Qc,simprocAttr];have hres:∃ov,frz (Qd (Bs 0 (.agg [ON,Ku cs wl.length]) (twA bv wv ON (Ku cs wl.length) bl.length wl.length::G))) depth (.agg [ON,Ku cs wl.length])=some ov/\∃bv' wv',ov= .agg [bv',wv']/\Kf bv' bl/\Xh wv' wl:=by
    have fz:∀g:Get,(bl.length≠0->g 1 20=some (.cells (Qb (B2 bl bl.length))))->∃ov,frz g depth (.agg [ON,Ku cs wl.length])=some ov/\∃bv' wv',ov= .agg [bv',wv']/\Kf bv' bl/\Xh wv' wl:=by
     intro g hg;have h1:∃bv',frz g 11 ON=some bv' /\Kf bv' bl:=by
      by_cases n0:bl.length=0
      . have:bl=[]:=Zqh n0;subst this;rw[<-hON];exact⟨.nS,rfl,[],rfl,Qv.nil⟩
      . have eON:ON= .gS 1 33 (Qbj (Z8 bl) bl.length) bl.length 1:=by rw[<-hON];unfold Qdr;rw[if_neg n0]
        have row:∀j∈List.range bl.length,frz g 10 (.mS 1 20 (Qbd (Z8 bl) j) ((Z8 bl).getD j 0) (some ((Z8 bl).getD j 0)) 1)=some (.iS (Qb (bl.getD j [])) (bl.getD j []).length true):=by
         intro j hj;have hj' :j<bl.length:=Zq1.1 hj;have gl:(Z8 bl).getD j 0=bl[j].length:=by rw[Qbs (by omega)];simp
         have gd:bl.getD j []=bl[j]:=by rw[Zsp,Zpk hj'];rfl
         have ho:Qbd (Z8 bl) j+bl[j].length<=(B2 bl bl.length).length:=by
          rw[Qyn];have h1:=Qko (Z8 bl) (j+1);have h2:=Qu2 (Z8 bl) j (by omega);rw[Xr (by omega)] at h1;have:(Z8 bl)[j]=bl[j].length:=by simp
          omega
         rw[gl,gd];have e:((Qb (B2 bl bl.length)).drop (Qbd (Z8 bl) j)).take (bl[j].length*1)=Qb bl[j]:=by rw[Zp7,Qfw,Qa6,Zah bl j hj']
         have:=Qcy (g:=g) (f:=1) (s:=20) (o:=Qbd (Z8 bl) j) (len:=bl[j].length) (esz:=1) (cap:=some bl[j].length) (xs:=Qb (B2 bl bl.length)) (m:=8) (hg n0) (by rw[Za];omega) (by rw[e];exact Qbb _ _ (Qa8 _));rw[e] at this;simpa using this
        have rows:=Qpy (List.range bl.length) row;rw[Q5m (fun r:List UInt8=>V.iS (Qb r) r.length true) []] at rows;refine⟨.iS (bl.map fun r=> .iS (Qb r) r.length true) bl.length false,?_,bl.map fun r=> .iS (Qb r) r.length true,?_,by simp,.inr ⟨false,rfl⟩⟩
        . rw[eON];have e:frz g 11 (.gS 1 33 (Qbj (Z8 bl) bl.length) bl.length 1)=(Qx (frz g 10) (Qbj (Z8 bl) bl.length)).map fun cs=> .iS cs bl.length false:=rfl;rw[e];unfold Qbj;rw[rows];rfl
        . have:∀l:List (List UInt8),K0 (l.map fun r=>V.iS (Qb r) r.length true) l:=by
           intro l
           induction l with
           |nil=>rfl
           |cons x l ih=>exact⟨_,_,rfl,Qk.mk x true,ih⟩
          exact this bl
     have h2:∃wv',frz g 11 (Ku cs wl.length)=some wv' /\Xh wv' wl:=by
      by_cases n0:wl.length=0
      . have:wl=[]:=Zqh n0;subst this;exact⟨.nS,rfl,[],rfl,Qv.nil⟩
      . have e1:Ku cs wl.length= .gS 0 58 cs wl.length 2:=by unfold Ku;rw[if_neg n0]
        have e:frz g 11 (.gS 0 58 cs wl.length 2)=(Qx (frz g 10) cs).map fun cs=> .iS cs wl.length false:=rfl;refine⟨.iS cs wl.length false,?_,cs,hcs,Qv.mk hcs.len⟩;rw[e1,e,Qp0 g 9 hcs];rfl
     obtain⟨bv',h1,hb'⟩:=h1;obtain⟨wv',h2,hw'⟩:=h2;refine⟨.agg [bv',wv'],?_,bv',wv',rfl,hb',hw'⟩;have e:frz g depth (.agg [ON,Ku cs wl.length])=(Qx (frz g 11) [ON,Ku cs wl.length]).map .agg:=rfl;rw[e];simp only[Qx,h1,h2,Zpl]
    by_cases n0:bl.length=0
    . exact fz _ (fun h=>absurd n0 h)
    . rw[Z2 (by
       have eON:ON= .gS 1 33 (Qbj (Z8 bl) bl.length) bl.length 1:=by rw[<-hON];unfold Qdr;rw[if_neg n0]
       rw[eON];simp[V.refs,Qh])]
      exact fz _ (fun h=>hD20 h _)
   obtain⟨ov,h1,h2⟩:=hres;exact W.done (End.ret (v:= .agg [ON,Ku cs wl.length]) (Xw (xs:=[ON,Ku cs wl.length]) rfl rfl (g2 _ _ _ _ _) (by rw[rd55];rfl)) ⟨_,rfl,ov,h1,h2⟩)
end Go.Proofs.YtpdimkonjmoadaaGreatDoor
namespace Go.Proofs.YtpdimkonjmoadaaGreatDoor
open Go.AM
attribute [local irreducible] U W
def Qae(fr d esz n:Nat)(cells:List V)(w:V)(o:O):Prop:=(n=0/\cells=[]/\w= .nS/\o= .dead)\/∃cap,w= .mS fr d 0 n cap esz/\o= .cells cells
theorem Qae.sc{fr d esz n:Nat}{cells:List V}{w:V}{o:O}(h:Qae fr d esz n cells w o):w.scalar=true:=by rcases h with⟨_,_,rfl,_⟩|⟨_,rfl,_⟩<;>rfl
theorem Qae.cells{fr d esz n:Nat}{cells:List V}{w:V}{o:O}(h:Qae fr d esz n cells w o):w.cells=some [w]:=by rcases h with⟨_,_,rfl,_⟩|⟨_,rfl,_⟩<;>rfl
theorem Qae.len{P:Program}{u e:TypeId}{fr d esz n:Nat}{cells:List V}{w:V}{o:O}(h:Qae fr d esz n cells w o)(hu:P.underlying u=some (.slice e)):∀g,B0 P g u w=some (.int .i64 n):=by
 intro g;rcases h with⟨rfl,_,rfl,_⟩|⟨_,rfl,_⟩
 . exact Q1g hu
 . exact Q7l hu g
theorem Qog{pol:Pol}{P:Program}{C:FuncId}{v:V}{cs:List V}{n k:Nat}(hp:Qo cs=true)(hq:pol.prim C=none)
 (h:∃r K',Qq P pol (some C) [v] []=some (r,K')/\((v= .nS/\n=0/\cs=[]/\r= .ret .nS)\/∃f s cap,v= .iS cs n f/\r= .ret (.mS 0 s 0 n cap k)/\Qd K' 0 s=some (.cells cs)))
 (hf:Qx (frz (fun _ _=>none) depth) [v]=some [v]){fn fr d:Nat}{H:Heap}(ha:pol.pure fn C=false)(hl:pol.lift fn C=true)(hd:Qd H fr d=none):
 ∃w o,callOp pol (Qq P pol) fn fr (some d) C [v] H=some (.ret w,hset H fr d o)/\Qae fr d k n cs w o/\((v= .nS/\n=0/\cs=[]/\w= .nS/\o= .dead)\/∃f cap,v= .iS cs n f/\w= .mS fr d 0 n cap k/\o= .cells cs):=by
 obtain⟨r,K',h1,⟨h0,h2,h4,rfl⟩|⟨f,s,cap,h0,rfl,h3⟩⟩:=h
 . refine⟨.nS,.dead,?_,.inl ⟨h2,h4,rfl,rfl⟩,.inl ⟨h0,h2,h4,rfl,rfl⟩⟩;exact Qnz (x:=(.nS,d,.dead)) hq ha hl hf h1 (by simp only[Qdj,hd])
 . refine⟨.mS fr d 0 n cap k,.cells cs,?_,.inr ⟨cap,rfl,rfl⟩,.inr ⟨f,cap,h0,rfl,rfl⟩⟩;exact Qnz (x:=(.mS fr d 0 n cap k,d,.cells cs)) hq ha hl hf h1 (by simp only[Qdj,hd,h3,hp,if_true])
theorem bybL:(match byt Tp 82 with|some b=>decide (b<=128)|none=>false)=true:=by kernel_rfl
theorem bycL:∃b,byt Tp 82=some b/\b<=128:=by
 have h:=bybL;cases hb:byt Tp 82 with
 |none=>rw[hb] at h;cases h
 |some b=>rw[hb] at h;exact⟨b,rfl,of_decide_eq_true h⟩
theorem Zc0(v:V)(cs:List V)(n:Nat)(hv:Qv 13 v cs n)(hn:n<=1100000)(hsc:cs.all V.scalar=true):
 ∃r K',Qq Tp Qf (some 49) [v] []=some (r,K')/\((v= .nS/\n=0/\cs=[]/\r= .ret .nS)\/∃f s cap,v= .iS cs n f/\r= .ret (.mS 0 s 0 n cap 13)/\Qd K' 0 s=some (.cells cs)):=by
 have key:CW Tp Qf 49 [v] [] fun r K' =>((v= .nS/\n=0/\cs=[]/\r= .ret .nS)\/∃f s cap,v= .iS cs n f/\r= .ret (.mS 0 s 0 n cap 13)/\Qd K' 0 s=some (.cells cs)):=by
  refine Ye Tryz.func49 rfl ?_;obtain⟨hlen,⟨rfl,h0⟩|⟨f,rfl⟩⟩:=id hv
  . have e:∀p q,Zj Tp .eql 61 p q .nS .nS=some (.bool true):=fun p q=>rfl;simp only[wX,↓Qc,simprocAttr,Tryz.ntmps49,e];exact W.done (End.ret (v:= .nS) rfl (.inl (by
     have hcs:cs=[]:=Zqh (by rw[hlen,h0,Zsq])
     first|exact⟨rfl,h0,hcs,rfl⟩|exact⟨h0,hcs,rfl⟩)))
  . have sc:∀g,Qj g 13 (.iS cs n f)=some (cs,n):=fun g=>Qv.sc hv;have mt5:Qf.mt 49 5=true:=rfl;have mt7:Qf.mt 49 7=true:=rfl;obtain⟨b,hb,hb2⟩:=bycL;have g5:Qd [[(5,O.cells [])]] 0 5=some (.cells []):=rfl;by_cases h0:n=0
    . subst h0;have hcs:cs=[]:=Zqh (by rw[hlen,Zsq]);subst hcs;have ap:Qp Tp (Qf.mt 49) 0 (Qd [[(5,O.cells [])]]) (some 7) 61 61 (.mS 0 5 0 0 (some 0) 13) (.iS [] 0 f)=some (.val (.mS 0 5 0 0 (some 0) 13) none):=
       Qfd Zu5 Qjg hb zc82 rfl Zu5 rfl (sc _)
      simp only[wX,↓Qc,simprocAttr,Tryz.ntmps49,Je Zu5,mt5,Q3,ap,Zu5];refine W.done (End.ret (v:= .mS 0 5 0 0 (some 0) 13) rfl (.inr ⟨f,5,some 0,rfl,rfl,?_⟩));rw[Z2 rfl];rfl
    . have n7:Qd [[(5,O.cells [])]] 0 7=none:=rfl;have ap:Qp Tp (Qf.mt 49) 0 (Qd [[(5,O.cells [])]]) (some 7) 61 61 (.mS 0 5 0 0 (some 0) 13) (.iS cs n f)=some (.val (.mS 0 7 0 n none 13) (some (0,7,.cells cs))):=by
       obtain⟨m,rfl⟩:∃m,n=m+1:=⟨n-1,by omega⟩;have r1:J6 (0+(m+1)) b=true:=Jg (Zpq (Nat.mul_le_mul (by omega:0+(m+1)<=1100000) hb2) (by decide)) (by omega);have zl:zeroCells Tp 82=some _:=zc82;have gm:=Qez (mt:=Qf.mt 49) (g:=Qd [[(5,O.cells [])]]) (fr:=0) (d:=7) (cs:=cs) (m:=m+1) (n:=13) (chk:=cs) mt7 hsc n7;simp only[Qp,Zu5,Qjg,hb,zl,Jp,sc,appendTo,g5,r1];simpa using gm
      simp only[wX,↓Qc,simprocAttr,Tryz.ntmps49,Je Zu5,mt5,Q3,ap,Zu5];refine W.done (End.ret (v:= .mS 0 7 0 n none 13) rfl (.inr ⟨f,7,none,rfl,rfl,?_⟩));rw[Z2 rfl];rfl
 obtain⟨r,K',h,h2⟩:=key;exact⟨r,K',h,h2⟩
theorem clL_op(v:V)(cs:List V)(n:Nat)(hv:Qv 13 v cs n)(hn:n<=1100000)(hsc:cs.all V.scalar=true)(hp:Qo cs=true){fn fr d:Nat}{H:Heap}(ha:Qf.pure fn 49=false)(hd:Qd H fr d=none):
 ∃w o,callOp Qf (Qq Tp Qf) fn fr (some d) 49 [v] H=some (.ret w,hset H fr d o)/\Qae fr d 13 n cs w o/\((v= .nS/\n=0/\cs=[]/\w= .nS/\o= .dead)\/∃f cap,v= .iS cs n f/\w= .mS fr d 0 n cap 13/\o= .cells cs):=
 Qog hp rfl (Zc0 v cs n hv hn hsc) (Qa (hv.frz 11) rfl) ha rfl hd
theorem bybC:(match byt Tp 84 with|some b=>decide (b<=128)|none=>false)=true:=by kernel_rfl
theorem bycC:∃b,byt Tp 84=some b/\b<=128:=by
 have h:=bybC;cases hb:byt Tp 84 with
 |none=>rw[hb] at h;cases h
 |some b=>rw[hb] at h;exact⟨b,rfl,of_decide_eq_true h⟩
theorem Zbm(v:V)(cs:List V)(n:Nat)(hv:Qv 12 v cs n)(hn:n<=1100000)(hsc:cs.all V.scalar=true):
 ∃r K',Qq Tp Qf (some 50) [v] []=some (r,K')/\((v= .nS/\n=0/\cs=[]/\r= .ret .nS)\/∃f s cap,v= .iS cs n f/\r= .ret (.mS 0 s 0 n cap 12)/\Qd K' 0 s=some (.cells cs)):=by
 have key:CW Tp Qf 50 [v] [] fun r K' =>((v= .nS/\n=0/\cs=[]/\r= .ret .nS)\/∃f s cap,v= .iS cs n f/\r= .ret (.mS 0 s 0 n cap 12)/\Qd K' 0 s=some (.cells cs)):=by
  refine Ye Tryz.func50 rfl ?_;obtain⟨hlen,⟨rfl,h0⟩|⟨f,rfl⟩⟩:=id hv
  . have e:∀p q,Zj Tp .eql 62 p q .nS .nS=some (.bool true):=fun p q=>rfl;simp only[wX,↓Qc,simprocAttr,Tryz.ntmps50,e];exact W.done (End.ret (v:= .nS) rfl (.inl (by
     have hcs:cs=[]:=Zqh (by rw[hlen,h0,Zsq])
     first|exact⟨rfl,h0,hcs,rfl⟩|exact⟨h0,hcs,rfl⟩)))
  . have sc:∀g,Qj g 12 (.iS cs n f)=some (cs,n):=fun g=>Qv.sc hv;have mt5:Qf.mt 50 5=true:=rfl;have mt7:Qf.mt 50 7=true:=rfl;obtain⟨b,hb,hb2⟩:=bycC;have g5:Qd [[(5,O.cells [])]] 0 5=some (.cells []):=rfl;by_cases h0:n=0
    . subst h0;have hcs:cs=[]:=Zqh (by rw[hlen,Zsq]);subst hcs;have ap:Qp Tp (Qf.mt 50) 0 (Qd [[(5,O.cells [])]]) (some 7) 62 62 (.mS 0 5 0 0 (some 0) 12) (.iS [] 0 f)=some (.val (.mS 0 5 0 0 (some 0) 12) none):=
       Qfd Zu7 Qsq hb zc84 rfl Zu7 rfl (sc _)
      simp only[wX,↓Qc,simprocAttr,Tryz.ntmps50,Je Zu7,mt5,Q3,ap,Zu7];refine W.done (End.ret (v:= .mS 0 5 0 0 (some 0) 12) rfl (.inr ⟨f,5,some 0,rfl,rfl,?_⟩));rw[Z2 rfl];rfl
    . have n7:Qd [[(5,O.cells [])]] 0 7=none:=rfl;have ap:Qp Tp (Qf.mt 50) 0 (Qd [[(5,O.cells [])]]) (some 7) 62 62 (.mS 0 5 0 0 (some 0) 12) (.iS cs n f)=some (.val (.mS 0 7 0 n none 12) (some (0,7,.cells cs))):=by
       obtain⟨m,rfl⟩:∃m,n=m+1:=⟨n-1,by omega⟩;have r1:J6 (0+(m+1)) b=true:=Jg (Zpq (Nat.mul_le_mul (by omega:0+(m+1)<=1100000) hb2) (by decide)) (by omega);have zl:zeroCells Tp 84=some _:=zc84;have gm:=Qez (mt:=Qf.mt 50) (g:=Qd [[(5,O.cells [])]]) (fr:=0) (d:=7) (cs:=cs) (m:=m+1) (n:=12) (chk:=cs) mt7 hsc n7;simp only[Qp,Zu7,Qsq,hb,zl,Jp,sc,appendTo,g5,r1];simpa using gm
      simp only[wX,↓Qc,simprocAttr,Tryz.ntmps50,Je Zu7,mt5,Q3,ap,Zu7];refine W.done (End.ret (v:= .mS 0 7 0 n none 12) rfl (.inr ⟨f,7,none,rfl,rfl,?_⟩));rw[Z2 rfl];rfl
 obtain⟨r,K',h,h2⟩:=key;exact⟨r,K',h,h2⟩
theorem clC_op(v:V)(cs:List V)(n:Nat)(hv:Qv 12 v cs n)(hn:n<=1100000)(hsc:cs.all V.scalar=true)(hp:Qo cs=true){fn fr d:Nat}{H:Heap}(ha:Qf.pure fn 50=false)(hd:Qd H fr d=none)(hz:Qf.lift fn 50=true:=by rfl):
 ∃w o,callOp Qf (Qq Tp Qf) fn fr (some d) 50 [v] H=some (.ret w,hset H fr d o)/\Qae fr d 12 n cs w o/\((v= .nS/\n=0/\cs=[]/\w= .nS/\o= .dead)\/∃f cap,v= .iS cs n f/\w= .mS fr d 0 n cap 12/\o= .cells cs):=
 Qog hp rfl (Zbm v cs n hv hn hsc) (Qa (hv.frz 11) rfl) ha hz hd
theorem bybR:(match byt Tp 23 with|some b=>decide (b<=128)|none=>false)=true:=by kernel_rfl
theorem bycR:∃b,byt Tp 23=some b/\b<=128:=by
 have h:=bybR;cases hb:byt Tp 23 with
 |none=>rw[hb] at h;cases h
 |some b=>rw[hb] at h;exact⟨b,rfl,of_decide_eq_true h⟩
theorem Zeh(v:V)(cs:List V)(n:Nat)(hv:Qv 1 v cs n)(hn:n<=1100000)(hsc:cs.all V.scalar=true):
 ∃r K',Qq Tp Qf (some 53) [v] []=some (r,K')/\((v= .nS/\n=0/\cs=[]/\r= .ret .nS)\/∃f s cap,v= .iS cs n f/\r= .ret (.mS 0 s 0 n cap 1)/\Qd K' 0 s=some (.cells cs)):=by
 have key:CW Tp Qf 53 [v] [] fun r K' =>((v= .nS/\n=0/\cs=[]/\r= .ret .nS)\/∃f s cap,v= .iS cs n f/\r= .ret (.mS 0 s 0 n cap 1)/\Qd K' 0 s=some (.cells cs)):=by
  refine Ye Tryz.func53 rfl ?_;obtain⟨hlen,⟨rfl,h0⟩|⟨f,rfl⟩⟩:=id hv
  . have e:∀p q,Zj Tp .eql 52 p q .nS .nS=some (.bool true):=fun p q=>rfl;simp only[wX,↓Qc,simprocAttr,Tryz.ntmps53,e];exact W.done (End.ret (v:= .nS) rfl (.inl (by
     have hcs:cs=[]:=Zqh (by rw[hlen,h0,Zsq])
     first|exact⟨rfl,h0,hcs,rfl⟩|exact⟨h0,hcs,rfl⟩)))
  . have sc:∀g,Qj g 1 (.iS cs n f)=some (cs,n):=fun g=>Qv.sc hv;have mt5:Qf.mt 53 5=true:=rfl;have mt7:Qf.mt 53 7=true:=rfl;obtain⟨b,hb,hb2⟩:=bycR;have g5:Qd [[(5,O.cells [])]] 0 5=some (.cells []):=rfl;by_cases h0:n=0
    . subst h0;have hcs:cs=[]:=Zqh (by rw[hlen,Zsq]);subst hcs;have ap:Qp Tp (Qf.mt 53) 0 (Qd [[(5,O.cells [])]]) (some 7) 52 52 (.mS 0 5 0 0 (some 0) 1) (.iS [] 0 f)=some (.val (.mS 0 5 0 0 (some 0) 1) none):=
       Qfd Zu1 Qah hb Qrt rfl Zu1 rfl (sc _)
      simp only[wX,↓Qc,simprocAttr,Tryz.ntmps53,Je Zu1,mt5,Q3,ap,Zu1];refine W.done (End.ret (v:= .mS 0 5 0 0 (some 0) 1) rfl (.inr ⟨f,5,some 0,rfl,rfl,?_⟩));rw[Z2 rfl];rfl
    . have n7:Qd [[(5,O.cells [])]] 0 7=none:=rfl;have ap:Qp Tp (Qf.mt 53) 0 (Qd [[(5,O.cells [])]]) (some 7) 52 52 (.mS 0 5 0 0 (some 0) 1) (.iS cs n f)=some (.val (.mS 0 7 0 n none 1) (some (0,7,.cells cs))):=by
       obtain⟨m,rfl⟩:∃m,n=m+1:=⟨n-1,by omega⟩;have r1:J6 (0+(m+1)) b=true:=Jg (Zpq (Nat.mul_le_mul (by omega:0+(m+1)<=1100000) hb2) (by decide)) (by omega);have zl:zeroCells Tp 23=some _:=Qrt;have gm:=Qez (mt:=Qf.mt 53) (g:=Qd [[(5,O.cells [])]]) (fr:=0) (d:=7) (cs:=cs) (m:=m+1) (n:=1) (chk:=cs) mt7 hsc n7;simp only[Qp,Zu1,Qah,hb,zl,Jp,sc,appendTo,g5,r1];simpa using gm
      simp only[wX,↓Qc,simprocAttr,Tryz.ntmps53,Je Zu1,mt5,Q3,ap,Zu1];refine W.done (End.ret (v:= .mS 0 7 0 n none 1) rfl (.inr ⟨f,7,none,rfl,rfl,?_⟩));rw[Z2 rfl];rfl
 obtain⟨r,K',h,h2⟩:=key;exact⟨r,K',h,h2⟩
theorem Zbd(v:V)(cs:List V)(n:Nat)(hv:Qv 1 v cs n)(hn:n<=1100000)(hsc:cs.all V.scalar=true)(hp:Qo cs=true){fn fr d:Nat}{H:Heap}(ha:Qf.pure fn 53=false)(hd:Qd H fr d=none):
 ∃w o,callOp Qf (Qq Tp Qf) fn fr (some d) 53 [v] H=some (.ret w,hset H fr d o)/\Qae fr d 1 n cs w o/\((v= .nS/\n=0/\cs=[]/\w= .nS/\o= .dead)\/∃f cap,v= .iS cs n f/\w= .mS fr d 0 n cap 1/\o= .cells cs):=
 Qog hp rfl (Zeh v cs n hv hn hsc) (Qa (hv.frz 11) rfl) ha rfl hd
end Go.Proofs.YtpdimkonjmoadaaGreatDoor
namespace Go.Proofs.YtpdimkonjmoadaaGreatDoor
open Go.AM
attribute [local irreducible] U W
structure ObjR where
 kind:Int
 links:Int
 size:Int
 data:List Ka
end Go.Proofs.YtpdimkonjmoadaaGreatDoor
namespace Go.Proofs.YtpdimkonjmoadaaGreatDoor
open Go.AM
attribute [local irreducible] U W
end Go.Proofs.YtpdimkonjmoadaaGreatDoor
namespace Go.Proofs.YtpdimkonjmoadaaGreatDoor
open Go.AM
attribute [local irreducible] U W
end Go.Proofs.YtpdimkonjmoadaaGreatDoor
namespace Go.Proofs.YtpdimkonjmoadaaGreatDoor
open Go.AM
attribute [local irreducible] U W
end Go.Proofs.YtpdimkonjmoadaaGreatDoor
namespace Go.Proofs.YtpdimkonjmoadaaGreatDoor
open Go.AM
attribute [local irreducible] U W
section
variable {bv wv sv mv lv kv ov cv : V} {x : Yj}
end
end Go.Proofs.YtpdimkonjmoadaaGreatDoor
namespace Go.Proofs.YtpdimkonjmoadaaGreatDoor
open Go.AM
attribute [local irreducible] U W
theorem Qvo(v:V)(l:List Ka)(hv:Bm v l)(hl:l.length<=1100000):Fz Tp Qf 51 [v] fun r=>Bm r l:=by
 refine Zp Tryz.func51 rfl ?_;obtain⟨hlen,⟨rfl,hn⟩|⟨f,rfl⟩⟩:=id hv
 . have h0:l=[]:=Zqh hn;subst h0;have e:∀p q,Zj Tp .eql 80 p q .nS .nS=some (.bool true):=fun p q=>rfl;simp only[wX,↓Qc,simprocAttr,Tryz.ntmps51,e];exact W.done (Zc.ret rfl rfl Qv.nil)
 . have sc:∀g,Qj g 5 (.iS (Y6 l) l.length f)=some (Y6 l,l.length):=fun g=>Qv.sc hv;have mt7:Qf.mt 51 7=false:=Qej (by decide) rfl;have mt5:Qf.mt 51 5=false:=Qej (by decide) rfl;by_cases h0:l=[]
   . subst h0;have ap:Qp Tp (Qf.mt 51) 0 (Qd [[]]) (some 7) 80 80 (.iS [] 0 true) (.iS (Y6 []) 0 f)=some (.val (.iS [] 0 true) none):=by
      have:=sc (Qd [[]]);simp only[Zq4] at this;simp only[Qp,Zu8,Qyc,byP,zc60,Jp,this];rfl
     simp only[wX,↓Qc,simprocAttr,Tryz.ntmps51,Je Zu8,Q3,ap,mt7,mt5,Zu8,Zq4];exact W.done (Zc.ret (v:= .iS [] 0 true) (v' := .iS [] 0 true) rfl rfl (Qv.mk (cells:=[]) rfl))
   . have hp:0<l.length:=List.length_pos_iff.2 h0;have ap:Qp Tp (Qf.mt 51) 0 (Qd [[]]) (some 7) 80 80 (.iS [] 0 true) (.iS (Y6 l) l.length f)=some (.val (.gS 0 7 (Y6 l) l.length 5) (some (0,7,.grow l.length))):=by
      rw[Qpx Zu8 Qyc byP zc60 rfl Zu8 (sc _) hp rfl (Jg (by omega) (by omega)),Zrg,Zpw,Bc mt7 (Ql3 (Qmo l)) rfl]
     simp only[wX,↓Qc,simprocAttr,Tryz.ntmps51,Je Zu8,Q3,ap,mt7,mt5,Zu8];refine W.done (Zc.ret (v:= .gS 0 7 (Y6 l) l.length 5) (v' := .iS (Y6 l) l.length false) rfl ?_ (Qv.mk (Qlw l)));show(Qx (AM.frz _ 11) (Y6 l)).map _=_;rw[Qbb _ 10 (Qmo l)];rfl
section
variable {bv wv sv mv lv kv ov cv : V} {x : Yj}
end
end Go.Proofs.YtpdimkonjmoadaaGreatDoor
namespace Go.Proofs.YtpdimkonjmoadaaGreatDoor
open Go.AM
attribute [local irreducible] U W
section
variable {bv wv sv mv lv kv ov cv : V} {x : Yj}
theorem Qm0(l:List Int):(Qm l).all Qi6=true:=by rw[Zqt];intro x hx;simp only[Qm,Zp3] at hx;obtain⟨b,_,rfl⟩:=hx;rfl
theorem byI:byt Tp 3=some 8:=by kernel_rfl
theorem Qv7(v:V)(l:List Int)(hv:Ke v l)(hl:l.length<=1100000):Fz Tp Qf 48 [v] fun r=>Ke r l:=by
 refine Zp Tryz.func48 rfl ?_;obtain⟨hlen,⟨rfl,hn⟩|⟨f,rfl⟩⟩:=id hv
 . have h0:l=[]:=Zqh hn;subst h0;have e:∀p q,Zj Tp .eql 34 p q .nS .nS=some (.bool true):=fun p q=>rfl;simp only[wX,↓Qc,simprocAttr,Tryz.ntmps48,e];exact W.done (Zc.ret rfl rfl Qv.nil)
 . have sc:∀g,Qj g 1 (.iS (Qm l) l.length f)=some (Qm l,l.length):=fun g=>Qv.sc hv;have mt7:Qf.mt 48 7=false:=Qej (by decide) rfl;have mt5:Qf.mt 48 5=false:=Qej (by decide) rfl;by_cases h0:l=[]
   . subst h0;have ap:Qp Tp (Qf.mt 48) 0 (Qd [[]]) (some 7) 34 34 (.iS [] 0 true) (.iS (Qm []) 0 f)=some (.val (.iS [] 0 true) none):=by
      have:=sc (Qd [[]]);simp only[Zq4] at this;simp only[Qp,Zu2,sz3,byI,zc3,Jp,this];rfl
     simp only[wX,↓Qc,simprocAttr,Tryz.ntmps48,Je Zu2,Q3,ap,mt7,mt5,Zu2,Zq4];exact W.done (Zc.ret (v:= .iS [] 0 true) (v' := .iS [] 0 true) rfl rfl (Qv.mk (cells:=[]) rfl))
   . have hp:0<l.length:=List.length_pos_iff.2 h0;have ap:Qp Tp (Qf.mt 48) 0 (Qd [[]]) (some 7) 34 34 (.iS [] 0 true) (.iS (Qm l) l.length f)=some (.val (.gS 0 7 (Qm l) l.length 1) (some (0,7,.grow l.length))):=by
      rw[Qpx Zu2 sz3 byI zc3 rfl Zu2 (sc _) hp rfl (Jg (by omega) (by omega)),Zrg,Zpw,Bc mt7 (Ql3 (Qm0 l)) rfl]
     simp only[wX,↓Qc,simprocAttr,Tryz.ntmps48,Je Zu2,Q3,ap,mt7,mt5,Zu2];refine W.done (Zc.ret (v:= .gS 0 7 (Qm l) l.length 1) (v' := .iS (Qm l) l.length false) rfl ?_ (Ke.mk l false));show(Qx (AM.frz _ 11) (Qm l)).map _=_;rw[Qbb _ 10 (Qm0 l)];rfl
structure Zda(n:Nat)(x:Yj)(lw kw ow cw:V)(ol oc ok oo:O):Prop where
 lines:∃cs,Qae n 18 13 x.p.lines.length cs lw ol/\LinesC cs x.p.lines
 changes:∃cs,Qae n 21 12 x.p.changes.length cs cw oc/\Zr cs x.p.changes x.datas
 keys:∃cs,Qae n 65 1 x.p.keys.length cs kw ok/\K0 cs x.p.keys
 loaded:∃cs,Qae n 68 1 x.p.loaded.length cs ow oo/\K0 cs x.p.loaded
structure FrC(pc z c75:List V):Prop where
 a:Qh (fun f _=>Nat.ble 3 f) pc=false
 b:Qh (fun f _=>Nat.ble 3 f) z=false
 c:Qh (fun f _=>Nat.ble 3 f) c75=false
def Qgh:List V:=[.nS,.nS,.nS,.int .u32 0,.int .u32 0,.int .u32 0,.int .i64 0,.int .u32 0,.int .u32 0,.int .u32 0,.int .u32 0,.nS,.nS,.nS,.nS,.nS,.int .i64 0,.int .i64 0,.int .u32 0]
end
end Go.Proofs.YtpdimkonjmoadaaGreatDoor
namespace Go.Proofs.YtpdimkonjmoadaaGreatDoor
open Go.AM
attribute [local irreducible] U W
theorem Quv:∀{ls:List Zv} {ds:List (List UInt8)} {cs:List V},Zr cs ls ds->cs.length=ls.length*12
 |[],[],cs,h=>by
  have:cs=[]:=h;subst this;rfl
 |[],_::_,_,h=>h.elim
 |_::_,[],_,h=>h.elim
 |c::ls,_::ds,_,⟨dv,d,e,_,_,h⟩=>by
  subst e;rw[Zqp,Quv h];simp[Qw];omega
theorem Qll{g:Get}{m:Nat}:∀{ls:List Zv} {ds:List (List UInt8)} {cs:List V},Zr cs ls ds->Qx (frz g (m+1)) cs=some cs
 |[],[],cs,h=>by
  have:cs=[]:=h;subst this;rfl
 |[],_::_,_,h=>h.elim
 |_::_,[],_,h=>h.elim
 |c::ls,_::ds,_,⟨dv,d,e,h1,_,h⟩=>by
  subst e;simp only[Qw,Zqo,Zrg];exact Qa rfl (Qa rfl (Qa rfl (Qa rfl (Qa rfl (Qa rfl (Qa (Qv.frz h1 m) (Qa rfl (Qa rfl (Qa rfl (Qa rfl (Qa rfl (Qll h))))))))))))
theorem Qj2{g:Get}{m:Nat}:∀{ls:List (List UInt8)} {cs:List V},K0 cs ls->Qx (frz g (m+1)) cs=some cs
 |[],cs,h=>by
  have:cs=[]:=h;subst this;rfl
 |x::ls,_,⟨v,d,e,h1,h⟩=>by
  subst e;exact Qa (Qv.frz h1 m) (Qj2 h)
theorem Qqi{g:Get}{m:Nat}:∀{ls:List Ji} {cs:List V},LinesC cs ls->Qx (frz g (m+1)) cs=some cs
 |[],cs,h=>by
  have:cs=[]:=h;subst this;rfl
 |l::ls,_,⟨dv,d,e,h1,h⟩=>by
  subst e;simp only[Ja,Zqo,Zrg];exact Qa rfl (Qa rfl (Qa rfl (Qa rfl (Qa rfl (Qa rfl (Qa rfl (Qa rfl (Qa rfl (Qa rfl (Qa rfl (Qa rfl (Qa (Qv.frz h1 m) (Qqi h)))))))))))))
theorem Qae.frz{fr d esz n m:Nat}{cs:List V}{w:V}{o:O}(h:Qae fr d esz n cs w o)(hl:cs.length=n*esz){g:Get}(hg:g fr d=some o)(hc:Qx (frz g (m+1)) cs=some cs):∃w',AM.frz g (m+2) w=some w' /\Qv esz w' cs n:=by
 rcases h with⟨h0,hcs,rfl,_⟩|⟨cap,rfl,rfl⟩
 . subst hcs;exact⟨.nS,rfl,by rw[h0];exact Qv.nil⟩
 . · have e:(cs.drop 0).take (n*esz)=cs:=by rw[Zr1,Zr8 (by omega)]
     have:=Qcy (g:=g) (f:=fr) (s:=d) (o:=0) (len:=n) (esz:=esz) (m:=m) (cap:=cap) (xs:=cs) hg (by omega) (by rw[e];exact hc);rw[e] at this;exact⟨_,this,hl,.inr ⟨_,rfl⟩⟩
theorem Qqe:∀{ls:List Ji} {cs:List V},LinesC cs ls->cs.length=ls.length*13
 |[],cs,h=>by
  have:cs=[]:=h;subst this;rfl
 |l::ls,_,⟨dv,d,e,_,h⟩=>by
  subst e;rw[Zqp,Qqe h];simp[Ja];omega
theorem Qjv:∀{ls:List (List UInt8)} {cs:List V},K0 cs ls->cs.length=ls.length*1
 |[],cs,h=>by
  have:cs=[]:=h;subst this;rfl
 |x::ls,_,⟨v,d,e,_,h⟩=>by
  subst e;rw[Zq2,Qjv h];simp
end Go.Proofs.YtpdimkonjmoadaaGreatDoor
end
