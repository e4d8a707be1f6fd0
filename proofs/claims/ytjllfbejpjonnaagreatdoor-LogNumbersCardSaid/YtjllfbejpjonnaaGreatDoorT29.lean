/- This file holds in one the texts LN23, LN24, LN25, LN26, LN27, LN28; each says at its head what it proves. -/
import Derived.Test.YtjllfbejpjonnaaGreatDoorT24
import Derived.Test.YtjllfbejpjonnaaGreatDoorT28
set_option linter.unusedSimpArgs false
set_option linter.unusedVariables false
section
set_option maxRecDepth 100000
namespace Go.Proofs.YtjllfbejpjonnaaGreatDoor
open Go.AM
attribute [local irreducible] U W
theorem Qpk:∀n,zerosN [V.int .u8 0] n=Qb (zB n)
 |0=>rfl
 |n+1=>by simp only[zerosN,Qpk n,zB,List.replicate_succ,Qb,Zo4];rfl
theorem Qik(n:Int):∃b:UInt8,(IntKind.u8).wrap n=(b.toNat:Int):=by
 refine⟨UInt8.ofNat (n%256).toNat,?_⟩;have:(IntKind.u8).wrap n=n%256:=by simp only[IntKind.wrap,IntKind.bits,IntKind.signed,Zqy,Zn5,if_false];rfl
 rw[this,UInt8.toNat_ofNat'];omega
theorem u8_of(n:Int)(h:0<=n/\n<256):∃b:UInt8,n=(b.toNat:Int):=by refine⟨UInt8.ofNat n.toNat,?_⟩;rw[UInt8.toNat_ofNat'];omega
def Q7l(n:Nat)(x:V):Prop:=∃l,Qe x l/\l.length=n
theorem Zak(c:Qp)(dv:V)(d:List UInt8)(hd:Qe dv d)(hK:KOk c):Fz Tp Qg 68 [.agg (Ql c dv)] (Q7l 18):=by
 refine Zm Tryz.func68 rfl ?_;have s1:=Q4 hd;have s2:=Q7 hd;obtain⟨cset,cobj,cindex,ckind,clinks,csize,cn,⟨pa,pb,pi,pt,ps⟩⟩:=c;obtain⟨⟨hk1,hk2⟩,hz1,hz2⟩:=hK;simp only at hk1 hk2 hz1 hz2;have cv:∀g (n:Int),convertV Tp g 3 5 (.int .i64 n)=some (.val (.int .u8 ((IntKind.u8).wrap n)) none):=fun g n=>by simp only[convertV,Zu3,Zu11]
 obtain⟨bk,rfl⟩:=u8_of ckind ⟨hk1,hk2⟩;obtain⟨bl,wl⟩:=Qik clinks;obtain⟨bo,wo⟩:=Qik cobj;obtain⟨bi,wi⟩:=Qik cindex;obtain⟨bb,hb,hb2⟩:=bycB;have r16:J4 16 bb=true:=Zw (Zn7 (Zra (Zn6 16) hb2) (by decide)) (by omega);have mt8:Qg.mt 68 8=true:=rfl;have mt24:Qg.mt 68 24=false:=B2 (by decide) rfl;have mt26:Qg.mt 68 26=false:=B2 (by decide) rfl;have mt43:Qg.mt 68 43=false:=B2 (by decide) rfl;have mt45:Qg.mt 68 45=false:=B2 (by decide) rfl;simp only[Ql];have z16:zerosN [V.int .u8 0] 16=Qb (zB 16):=Qpk 16;have pu:∀b,(V.int .u8 b).pure=true:=fun _=>rfl;have z2:zerosN [V.int .u8 0] 2=[.int .u8 0,.int .u8 0]:=rfl;have fin:∀(X:List UInt8) (A:AM.Frame),X.length=16->Xx A 8=some (.cells (Qb X))->Xx A 45=none->Qr Tp (Qg.mt 68) 0 (Qd [A]) (some 45) 26 26 (.iS [.int .u8 bo.toNat,.int .u8 bi.toNat] 2 true) (.mS 0 8 0 16 (some 16) 1)=some (.val (.gS 0 45 (Qb (bo::bi::X)) 18 1) (some (0,45,.grow 18))):=by
  intro X A hX h8 h45;have g8:Qd [A] 0 8=some (.cells (Qb X)):=h8;have g45:Qd [A] 0 45=none:=h45;have sc:Qk (Qd [A]) 1 (.mS 0 8 0 16 (some 16) 1)=some (Qb X,16):=by have:=sc_own (c:=some 16) g8;rwa[hX] at this
  rw[Qcf Zu0 sz5 hb zc5 rfl Zu0 sc (by decide) rfl (Zw (Zn7 (Zra (Zn6 18) hb2) (by decide)) (by omega)),Kr mt45 (Ja X) g45];rfl
 have ends:∀(X:List UInt8) (H:AM.Heap),X.length=16->∃w,AM.frz (Qd H) depth (.gS 0 45 (Qb (bo::bi::X)) 18 1)=some w/\Q7l 18 w:=by
  intro X H hX;refine⟨.iS (Qb (bo::bi::X)) 18 false,?_,bo::bi::X,?_,by simp[hX]⟩
  . show(Q5 (AM.frz _ 11) _).map _=_;rw[Bu];rfl
  . have:=Qe.mk (bo::bi::X) false;simpa [hX] using this
 cases c1:(cindex==15)
 . obtain⟨m,⟨v,l,e,rfl,hv,hl⟩,hm⟩:=(Qxl ⟨pa,pb,pi,pt,ps⟩).op (by rfl) rfl;have hm1:∀s H,_:=fun s H=>hm 68 0 s H rfl;simp only[Yb.cells] at hm1;have sv:=Q4 hv;have cp:=fun(g:Get) (hg:g 0 8=some (.cells (Qb (zB 16))))=>Qgh (P:=Tp) (u:=26) Zu0 sz5 (f:=0) (s:=8) (o:=0) (n:=16) (cap:=some 16) (xs:=zB 16) (m:=l) (v:=v) hg (by rw[Qeq];omega) (Qw.sc hv) (Qw.notStr hv);have cp1:=cp (Qd [[(1,.cells [.int .i64 cset,.int .i64 cobj,.int .i64 cindex,.int .u8 bk.toNat,.int .i64 clinks,.int .i64 csize,dv,.int .i64 pa,.int .u32 pb,.int .u32 pi,.int .u32 pt,.int .u32 ps]),(8,.cells (Qb (zB 16)))]]) rfl;have hX:((zB 16).take 0++l.take (min l.length 16)++(zB 16).drop (0+min l.length 16)).length=16:=by
    simp only[Zom,Zo1,Zo2,Qeq];omega
   generalize(zB 16).take 0++l.take (min l.length 16)++(zB 16).drop (0+min l.length 16)=X at*;have ap:=fin X [(1,.cells [.int .i64 cset,.int .i64 cobj,.int .i64 cindex,.int .u8 bk.toNat,.int .i64 clinks,.int .i64 csize,dv,.int .i64 pa,.int .u32 pb,.int .u32 pi,.int .u32 pt,.int .u32 ps]),(8,.cells (Qb X))] hX rfl rfl;simp only[wA,↓Qc,simprocAttr,Tryz.ntmps68,ta,wH,s1,s2,c1,cv,wl,wo,wi,hm1,Zu0,sz5,hb,zc5,r16,z16,z2,pu,mt8,mt24,mt26,mt43,mt45,and_self,Qf5,Qv,cp1,ap,Qow,Qp3,Xa.eq_1,Xa.eq_2,Qu.eq_1,Qu.eq_2,splice];obtain⟨w,hw,hr⟩:=ends X [[(1,.cells [.int .i64 cset,.int .i64 cobj,.int .i64 cindex,.int .u8 bk.toNat,.int .i64 clinks,.int .i64 csize,dv,.int .i64 pa,.int .u32 pb,.int .u32 pi,.int .u32 pt,.int .u32 ps]),(8,.cells (Qb X)),(45,.grow 18)]] hX;exact W.done (Q0.ret (v:= .gS 0 45 (Qb (bo::bi::X)) 18 1) rfl hw hr)
 . obtain⟨n,rfl⟩:∃n:Nat,csize=n:=⟨csize.toNat,by omega⟩;obtain⟨m,⟨v,l,e,rfl,hv,hl⟩,hm⟩:=(Qut n 2 (by omega) (by omega)).op (by rfl) rfl;have hm1:∀s H,callOp Qg (Qn Tp Qg) 68 0 s 67 [.int .i64 n,.int .i64 2] H=some (.ret (.tuple [v,.int .i64 e]),H):=fun s H=>hm 68 0 s H rfl;have sv:=Q4 hv;have sc:∀g,Qk g 1 v=some (Qb l,l.length):=fun g=>Qw.sc hv;by_cases h0:l.length=0
   . have ap0:∀g,Qr Tp (Qg.mt 68) 0 g (some 26) 26 26 (.iS [.int .u8 bk.toNat,.int .u8 bl.toNat] 2 true) v=some (.val (.iS [.int .u8 bk.toNat,.int .u8 bl.toNat] 2 true) none):=fun g=>
      Qbe Zu0 sz5 hb zc5 rfl Zu0 rfl (by have:=sc g;rwa[h0] at this)
     have cp:=fun(g:Get) (hg:g 0 8=some (.cells (Qb (zB 16))))=>Qgh (P:=Tp) (u:=26) Zu0 sz5 (f:=0) (s:=8) (o:=0) (n:=16) (cap:=some 16) (xs:=zB 16) (m:=[bk,bl]) (v:= .iS [.int .u8 bk.toNat,.int .u8 bl.toNat] 2 true) hg (by rw[Qeq];omega) rfl (fun l=>by simp);have cp1:=cp (Qd [[(1,.cells [.int .i64 cset,.int .i64 cobj,.int .i64 cindex,.int .u8 bk.toNat,.int .i64 clinks,.int .i64 n,dv,.int .i64 pa,.int .u32 pb,.int .u32 pi,.int .u32 pt,.int .u32 ps]),(8,.cells (Qb (zB 16)))]]) rfl;have hX:((zB 16).take 0++[bk,bl].take (min [bk,bl].length 16)++(zB 16).drop (0+min [bk,bl].length 16)).length=16:=by simp only[Zom,Zo1,Zo2,Qeq];omega
     generalize(zB 16).take 0++[bk,bl].take (min [bk,bl].length 16)++(zB 16).drop (0+min [bk,bl].length 16)=X at*;have ap:=fin X [(1,.cells [.int .i64 cset,.int .i64 cobj,.int .i64 cindex,.int .u8 bk.toNat,.int .i64 clinks,.int .i64 n,dv,.int .i64 pa,.int .u32 pb,.int .u32 pi,.int .u32 pt,.int .u32 ps]),(8,.cells (Qb X))] hX rfl rfl;simp only[wA,↓Qc,simprocAttr,Tryz.ntmps68,ta,wH,ap0,s1,s2,c1,cv,wl,wo,wi,hm1,Zu0,sz5,hb,zc5,r16,z16,z2,pu,mt8,mt24,mt26,mt43,mt45,and_self,Qf5,Qv,cp1,ap,Qow,Qp3,Xa.eq_1,Xa.eq_2,Qu.eq_1,Qu.eq_2,splice];obtain⟨w,hw,hr⟩:=ends X [[(1,.cells [.int .i64 cset,.int .i64 cobj,.int .i64 cindex,.int .u8 bk.toNat,.int .i64 clinks,.int .i64 n,dv,.int .i64 pa,.int .u32 pb,.int .u32 pi,.int .u32 pt,.int .u32 ps]),(8,.cells (Qb X)),(45,.grow 18)]] hX;exact W.done (Q0.ret (v:= .gS 0 45 (Qb (bo::bi::X)) 18 1) rfl hw hr)
   . have ap0:Qr Tp (Qg.mt 68) 0 (Qd [[(1,.cells [.int .i64 cset,.int .i64 cobj,.int .i64 cindex,.int .u8 bk.toNat,.int .i64 clinks,.int .i64 n,dv,.int .i64 pa,.int .u32 pb,.int .u32 pi,.int .u32 pt,.int .u32 ps]),(8,.cells (Qb (zB 16)))]]) (some 26) 26 26 (.iS [.int .u8 bk.toNat,.int .u8 bl.toNat] 2 true) v=some (.val (.gS 0 26 (Qb (bk::bl::l)) (2+l.length) 1) (some (0,26,.grow (2+l.length)))):=by
      rw[Qcf Zu0 sz5 hb zc5 rfl Zu0 (sc _) (by omega) rfl (Zw (Zn7 (Zra (by omega:2+l.length<=65536) hb2) (by decide)) (by omega)),Kr mt26 (Ja l) rfl];rfl
     have cp:=fun(g:Get) (hg:g 0 8=some (.cells (Qb (zB 16))))=>Qgh (P:=Tp) (u:=26) Zu0 sz5 (f:=0) (s:=8) (o:=0) (n:=16) (cap:=some 16) (xs:=zB 16) (m:=bk::bl::l) (v:= .gS 0 26 (Qb (bk::bl::l)) (2+l.length) 1) hg (by rw[Qeq];omega) (by
      have e2:2+l.length=(bk::bl::l).length:=by simp only[Zp9];omega
      rw[e2];rfl) (fun l=>by simp)
     have cp1:=cp (Qd [[(1,.cells [.int .i64 cset,.int .i64 cobj,.int .i64 cindex,.int .u8 bk.toNat,.int .i64 clinks,.int .i64 n,dv,.int .i64 pa,.int .u32 pb,.int .u32 pi,.int .u32 pt,.int .u32 ps]),(8,.cells (Qb (zB 16))),(26,.grow (2+l.length))]]) rfl;have hX:((zB 16).take 0++(bk::bl::l).take (min (bk::bl::l).length 16)++(zB 16).drop (0+min (bk::bl::l).length 16)).length=16:=by simp only[Zom,Zo1,Zo2,Qeq];omega
     generalize(zB 16).take 0++(bk::bl::l).take (min (bk::bl::l).length 16)++(zB 16).drop (0+min (bk::bl::l).length 16)=X at*;have ap:=fin X [(1,.cells [.int .i64 cset,.int .i64 cobj,.int .i64 cindex,.int .u8 bk.toNat,.int .i64 clinks,.int .i64 n,dv,.int .i64 pa,.int .u32 pb,.int .u32 pi,.int .u32 pt,.int .u32 ps]),(8,.cells (Qb X)),(26,.grow (2+l.length))] hX rfl rfl;simp only[wA,↓Qc,simprocAttr,Tryz.ntmps68,ta,wH,ap0,s1,s2,c1,cv,wl,wo,wi,hm1,Zu0,sz5,hb,zc5,r16,z16,z2,pu,mt8,mt24,mt26,mt43,mt45,and_self,Qf5,Qv,cp1,ap,Qow,Qp3,Xa.eq_1,Xa.eq_2,Qu.eq_1,Qu.eq_2,splice];obtain⟨w,hw,hr⟩:=ends X [[(1,.cells [.int .i64 cset,.int .i64 cobj,.int .i64 cindex,.int .u8 bk.toNat,.int .i64 clinks,.int .i64 n,dv,.int .i64 pa,.int .u32 pb,.int .u32 pi,.int .u32 pt,.int .u32 ps]),(8,.cells (Qb X)),(26,.grow (2+l.length)),(45,.grow 18)]] hX;exact W.done (Q0.ret (v:= .gS 0 45 (Qb (bo::bi::X)) 18 1) rfl hw hr)
end Go.Proofs.YtjllfbejpjonnaaGreatDoor
namespace Go.Proofs.YtjllfbejpjonnaaGreatDoor
open Go.AM
attribute [local irreducible] U W
theorem Zez{X:List UInt8}{j:Nat}{b:UInt8}(hX:X.length=256)(hj:j<256):splice (Qb X) j [V.int .u8 b.toNat]=Qb (X.set j b):=Qef X j b (by omega)
theorem Qxm{mt:Nat->Bool}{fr:Nat}{g:Get}{d:Option Nat}{f s n c:Nat}{X l:List UInt8}{v:V}(hg:g f s=some (.cells (Qb X)))(hc:n+l.length<=c)(hX:X.length=c)(hc2:c<=65536)(hv:Qe v l):
 ∃w Y,Qr Tp mt fr g d 26 26 (.mS f s 0 n (some c) 1) v=some (.val (.mS f s 0 (n+l.length) (some c) 1) w)/\Y.length=c/\((w=none/\Y=X)\/w=some (f,s,.cells (Qb Y))):=by
 obtain⟨b,hb,hb2⟩:=bycB;have sc:Qk g 1 v=some (Qb l,l.length):=Qw.sc hv;by_cases h0:l.length=0
 . refine⟨none,X,?_,hX,.inl ⟨rfl,rfl⟩⟩;rw[h0] at sc;rw[Qbe Zu0 sz5 hb zc5 rfl Zu0 rfl sc,h0];rfl
 . refine⟨_,X.take n++l++X.drop (n+l.length),?_,?_,.inr rfl⟩
   . obtain⟨k,hk⟩:∃k,l.length=k+1:=⟨l.length-1,by omega⟩;have zl:zeroCells Tp 5=some _:=zc5;have hr:J4 (n+(k+1)) b=true:=Zw (Zn7 (Zra (by omega:n+(k+1)<=65536) hb2) (by decide)) (by omega);rw[hk] at sc;simp only[Qr,Zu0,sz5,hb,zl,Ji,sc,appendTo,hg,hr,Zp9,Zpt,Zod,if_true,and_self,true_and,Zof];rw[if_pos (by omega),if_pos ⟨by rw[Qy];omega,Z8 l⟩,Qfw,hk]
   . simp only[Zom,Zo1,Zo2];omega
theorem Zdk{f s n c h:Nat}(hn:n<=c)(hh:h<=c)(hc:0<c):∀g,Zn Tp g 26 (.mS f s 0 n (some c) 1) none (some (.int .i64 h)) none=some (.mS f s 0 h (some c) 1):=by intro g;have ol:∀x:Nat,Jt (some (.int .i64 x))=some (some (x:Int)):=fun x=>rfl;have on:Jt none=some none:=rfl;simp only[Zn,ol,on,Zu0,sz5,if_true,Qjg,Xh,Zo0,Zpb];rw[if_pos ⟨by omega,by omega,by omega,by omega,by omega,by omega,by simp⟩];simp
theorem Q9b(gn n set:Int)(v:V)(l:List Qp)(ds:List (List UInt8))(cs:List V)(hc:Qo cs l ds)(hv:Qw 12 v cs l.length)(hl:l.length<=12)(hK:∀c∈l,KOk c)(last:Bool):
 CW Tp Qg 29 [.int .u32 gn,.int .i64 n,.int .i64 set,v,.bool last] [] fun r H' =>∃v0 w L,r= .ret v0/\frzN (Qd H') depth v0=some w/\Qe w L/\L.length=256:=by
 refine Zu Tryz.func29 rfl ?_;have sv:=Q4 hv;have len:=hv.len Zu2;have cv:∀g (n:Int),convertV Tp g 3 5 (.int .i64 n)=some (.val (.int .u8 ((IntKind.u8).wrap n)) none):=fun g n=>by simp only[convertV,Zu3,Zu11]
 have cw:∀g (n:Int),convertV Tp g 27 3 (.int .u32 n)=some (.val (.int .i64 ((IntKind.i64).wrap n)) none):=fun g n=>by simp only[convertV,Zu3,Zu7]
 obtain⟨b1,w1⟩:=Qik n;obtain⟨b2,w2⟩:=Qik set;obtain⟨b3,w3⟩:=Qik l.length;obtain⟨bb,hb,hb2⟩:=bycB;have r256:J4 256 bb=true:=Zw (Zn7 (Zra (Zn6 256) hb2) (by decide)) (by omega);have mt18:Qg.mt 29 18=true:=rfl;have z256:zerosN [V.int .u8 0] 256=Qb (zB 256):=Qpk 256;have pu:∀b,(V.int .u8 b).pure=true:=fun _=>rfl;have ia:∀j:Nat,j<9->Qm Tp 26 (.mS 0 18 0 9 (some 256) 1) (.int .i64 j)=some (.ptr 0 18 j):=fun j hj=>by have:=Qir (P:=Tp) (u:=26) (e:=5) Zu0 sz5 (f:=0) (s:=18) (o:=0) (len:=9) (cap:=some 256) (k:= .i64) (i:=(j:Int)) (by omega) (by omega);rw[this];congr 2;omega
 have i0:Qm Tp 26 (.mS 0 18 0 9 (some 256) 1) (.int .i64 0)=some (.ptr 0 18 0):=ia 0 (by omega);have i5:Qm Tp 26 (.mS 0 18 0 9 (some 256) 1) (.int .i64 5)=some (.ptr 0 18 5):=ia 5 (by omega);have i6:Qm Tp 26 (.mS 0 18 0 9 (some 256) 1) (.int .i64 6)=some (.ptr 0 18 6):=ia 6 (by omega);have i7:Qm Tp 26 (.mS 0 18 0 9 (some 256) 1) (.int .i64 7)=some (.ptr 0 18 7):=ia 7 (by omega);have i8:Qm Tp 26 (.mS 0 18 0 9 (some 256) 1) (.int .i64 8)=some (.ptr 0 18 8):=ia 8 (by omega);have s76:splice (Qb (zB 256)) 0 [V.int .u8 76]=Qb ((zB 256).set 0 76):=Qef (zB 256) 0 76 (by rw[Qeq];omega);have hr:=Qdv gn;generalize hgn:(IntKind.i64).wrap gn=wgn at*;obtain⟨m,⟨pv,pl,pe,rfl,hpv,hpl⟩,hm⟩:=(Qat wgn hr).op (by rfl) rfl;have hm1:∀s H,_:=fun s H=>hm 29 0 s H rfl;have spv:=Q4 hpv;have slc:∀g,Zn Tp g 26 (.mS 0 18 0 9 (some 256) 1) (some (.int .i64 1)) (some (.int .i64 5)) none=some (.mS 0 18 1 4 (some 255) 1):=fun g=>by simp only[Zn,Zu0,sz5];rfl
 have hX1:(((((zB 256).set 0 76).set 5 b1).set 6 b2).set 7 b3).length=256:=by simp only[Zql,Qeq]
 have cp:=fun(X:List UInt8) (hX:X.length=256) (g:Get) (hg:g 0 18=some (.cells (Qb X)))=>Qgh (P:=Tp) (u:=26) Zu0 sz5 (f:=0) (s:=18) (o:=1) (n:=4) (cap:=some 255) (xs:=X) (m:=pl) (v:=pv) hg (by omega) (Qw.sc hpv) (Qw.notStr hpv);have cp1:=cp _ hX1 (Qd [[(18,.cells (Qb (((((zB 256).set 0 76).set 5 b1).set 6 b2).set 7 b3)))]]) rfl;have hX2:((((((zB 256).set 0 76).set 5 b1).set 6 b2).set 7 b3).take 1++pl.take (min pl.length 4)++(((((zB 256).set 0 76).set 5 b1).set 6 b2).set 7 b3).drop (1+min pl.length 4)).length=256:=by simp only[Zom,Zo1,Zo2,hX1];omega
 generalize hX2e:(((((zB 256).set 0 76).set 5 b1).set 6 b2).set 7 b3).take 1++pl.take (min pl.length 4)++(((((zB 256).set 0 76).set 5 b1).set 6 b2).set 7 b3).drop (1+min pl.length 4)=X2 at*;simp only[wA,↓Qc,simprocAttr,Tryz.ntmps29,ta,wH,sv,len,cv,cw,w1,w2,w3,hgn,Zu0,sz5,hb,zc5,r256,z256,pu,mt18,and_self,i0,i5,i6,i7,s76,Zez,Qeq,Zql,Qy,hm1,Qf5,Qv,Qow,Qp3,Xa.eq_1,Xa.eq_2,Qu.eq_1,Qu.eq_2,slc,cp1];have s8:splice (Qb X2) 8 [V.int .u8 1]=Qb (X2.set 8 1):=Qef X2 8 1 (by omega);have h8:(X2.set 8 1).length=256:=by rw[Zql];exact hX2
 clear cp1 hX2e cp hX1;refine W.ite ?_ ?_<;>intro hlast
 case' refine_1=>simp only[wA,↓Qc,simprocAttr,ta,wH,sv,len,i8,s8,hX2,Qy,Qow,Qp3]
 case' refine_2=>simp only[wA,↓Qc,simprocAttr,ta,wH,sv,len,Qow,Qp3]
 all_goals
  refine W.ul ?_;refine W.loop (fun(i:Nat) t H=>∃X,X.length=256/\i<=l.length/\Jg [11,47,48,49] t 0=Q1g (.mS 0 18 0 (9+18*i) (some 256) 1) v (.int .i64 l.length) (.int .i64 i)/\(H=[[(18,.cells (Qb X))]]\/∃c,H=[[(15,.cells c),(18,.cells (Qb X))]])) (fun i=>l.length-i) ?_ 0 ⟨_,by first|exact h8|exact hX2,Zq1 _,rfl,.inl rfl⟩;rintro i t H ⟨X,hX,hi,ht,hH⟩;have nr:∀q,v.refs q=false:=fun q=>Qw.noRefs hv q;have hfor:forget Qg 29 0 8 t H=some (Jg [11,47,48,49] t 0,[[(18,.cells (Qb X))]]):=by
   have e1:List.modify H 0 (Ju fun s=>[15].contains s)=[[(18,.cells (Qb X))]]:=by rcases hH with rfl|⟨c,rfl⟩<;>rfl
   have:=Z7 (pol:=Qg) (fn:=29) (fr:=0) (r:=8) (kt:=[11,47,48,49]) (ds:=[15]) (t:=t) (H:=H) rfl (by rw[ht];simp only[Q1g,Qi,V.refs,nr];rfl)
    (by
      rw[e1]
      simp only[Q2,Zg,Qbx,B6];rfl)
   rw[e1] at this;exact this
  refine⟨_,_,hfor,?_⟩;rw[ht];simp only[Q1g];have key:i<l.length\/¬i<l.length:=Classical.em _;rcases key with h0|h0
  . have c1:decide ((i:Int)<l.length)=true:=Zrh (by omega);have wi:(IntKind.i64).wrap ((i:Int)+1)=((i+1:Nat):Int):=by rw[wrap_i64]<;>omega
    have at1:=hv.at (k:= .i64) Zu2 Qdq (by decide) (i:=(i:Int)) (by omega) (by omega);rw[show(i:Int).toNat*12=i*12 by omega] at at1;obtain⟨dv,q0,hi2,q1,q2⟩:=hc.at2 h0;have hcl:=Qbg hc;have rdc:Q3 Tp 43 cs (i*12)=some (.agg (Ql l[i] dv)):=by rw[Quz,if_pos (by omega),q0]
    have s1:=Q4 q1;have s2:=Q7 q1;obtain⟨m,⟨el,hel,hell⟩,hm⟩:=(Zak l[i] dv _ q1 (hK _ (Zp8 h0))).op (by rfl) (Qa (Qgk ⟨_,by rw[q2];exact q1⟩) rfl);have hm2:∀s H,_:=fun s H=>hm 29 0 s H rfl;generalize l[i]=c at*;obtain⟨d1,d2,d3,d4,d5,d6,d7,⟨p1,p2,p3,p4,p5⟩⟩:=c;simp only[Ql] at hm2 rdc;obtain⟨w,Y,ap,hY,hw⟩:=Qxm (mt:=Qg.mt 29) (fr:=0) (g:=Qd [[(15,.cells [.int .i64 d1,.int .i64 d2,.int .i64 d3,.int .u8 d4,.int .i64 d5,.int .i64 d6,dv,.int .i64 p1,.int .u32 p2,.int .u32 p3,.int .u32 p4,.int .u32 p5]),(18,.cells (Qb X))]]) (d:=some 56) (f:=0) (s:=18) (n:=9+18*i) (c:=256) rfl (by rw[hell];omega) hX (by omega) hel;rw[hell] at ap;rcases hw with⟨rfl,rfl⟩|rfl
    . simp only[wX,↓Qc,simprocAttr,c1,wi,at1,rdc,s1,s2,hm2,Qv,ap];exact W.done ⟨i+1,⟨_,hY,by omega,rfl,.inr ⟨_,rfl⟩⟩,by omega⟩
    . simp only[wX,↓Qc,simprocAttr,c1,wi,at1,rdc,s1,s2,hm2,Qv,ap];exact W.done ⟨i+1,⟨_,hY,by omega,rfl,.inr ⟨_,rfl⟩⟩,by omega⟩
  . have c1:decide ((i:Int)<l.length)=false:=Zri (by omega);have hin:i=l.length:=by omega
    subst hin;have hfz:=Q6z (g:=Qd [[(18,O.cells (Qb X))]]) (f:=0) (s:=18) (o:=0) (len:=9+18*l.length) (m:=10) (cap:=some 256) (xs:=Qb X) (l:=X.take (9+18*l.length)) rfl (by rw[Zpe,Qbc]) (by rw[Qy];omega);have hbs:Qe (.iS (Qb (X.take (9+18*l.length))) (9+18*l.length) (some 256==some (9+18*l.length))) (X.take (9+18*l.length)):=by have e:=Qe.mk (X.take (9+18*l.length)) (some 256==some (9+18*l.length));rwa[show(X.take (9+18*l.length)).length=9+18*l.length by rw[Zo1];omega] at e
    obtain⟨r,H',e1,rfl⟩:=Q2c _ _ hbs (by rw[Zo1];omega);have hsum:∀d,callOp Qg (Qn Tp Qg) 29 0 d 69 [.mS 0 18 0 (9+18*l.length) (some 256) 1] [[(18,.cells (Qb X))]]=some (.ret (.int .u32 (Kk (X.take (9+18*l.length))).a),[[(18,.cells (Qb X))]]):=fun d=>
     Qee rfl rfl rfl rfl (Qa hfz rfl) e1 rfl
    generalize(Kk (X.take (9+18*l.length))).a=sm at*;have hr2:=Qdv sm;generalize hsm:(IntKind.i64).wrap sm=wsm at*;obtain⟨m,⟨sv2,sl2,se2,rfl,hsv2,hsl2⟩,hm⟩:=(Qat wsm hr2).op (by rfl) rfl;have hm2:∀s H,_:=fun s H=>hm 29 0 s H rfl;have ssv2:=Q4 hsv2;obtain⟨w,Y,ap,hY,hw⟩:=Qxm (mt:=Qg.mt 29) (fr:=0) (g:=Qd [[(18,.cells (Qb X))]]) (d:=some 67) (f:=0) (s:=18) (n:=9+18*l.length) (c:=256) rfl (by omega) hX (by omega) hsv2;have ct:∀g,Zn Tp g 26 (.mS 0 18 0 (9+18*l.length+sl2.length) (some 256) 1) none (some (.int .i64 256)) none=some (.mS 0 18 0 256 (some 256) 1):=Zdk (f:=0) (s:=18) (n:=9+18*l.length+sl2.length) (c:=256) (h:=256) (by omega) (by omega) (by omega);have fin:∀Y:List UInt8,Y.length=256->∃v0 w L,Rt.ret (V.mS 0 18 0 256 (some 256) 1)=Rt.ret v0/\frzN (Qd (Yk 0 (.mS 0 18 0 256 (some 256) 1) [[(18,.cells (Qb Y))]])) depth v0=some w/\Qe w L/\L.length=256:=by
     intro Y hY;refine⟨_,.iS (Qb Y) 256 true,Y,rfl,?_,by have:=Qe.mk Y true;rwa[hY] at this,hY⟩;rw[Zj rfl];show(match Qd [[(18,O.cells (Qb Y))]] 0 18 with
      |some (.cells xs)=>if 0+256*1<=xs.length then(Q5 (frzN _ 11) ((xs.drop 0).take (256*1))).map fun cs=>V.iS cs 256 (some 256==some 256) else none
      |_=>none)=_
     have e:Qd [[(18,O.cells (Qb Y))]] 0 18=some (.cells (Qb Y)):=rfl;rw[e];simp only;rw[if_pos (by rw[Qy];omega),Zpe,Zpf (by rw[Qy];omega),Qge];rfl
    rcases hw with⟨rfl,rfl⟩|rfl
    . simp only[wA,↓Qc,simprocAttr,c1];refine W.done ?_;simp only[wX,↓Qc,simprocAttr,hsum,cw,hsm,hm2,ssv2,Qv,ap,ct];exact W.done (End.ret (v:= .mS 0 18 0 256 (some 256) 1) rfl (fin _ hY))
    . simp only[wA,↓Qc,simprocAttr,c1];refine W.done ?_;simp only[wX,↓Qc,simprocAttr,hsum,cw,hsm,hm2,ssv2,Qv,ap,ct];exact W.done (End.ret (v:= .mS 0 18 0 256 (some 256) 1) rfl (fin _ hY))
end Go.Proofs.YtjllfbejpjonnaaGreatDoor
namespace Go.Proofs.YtjllfbejpjonnaaGreatDoor
open Go.AM
attribute [local irreducible] U W
abbrev chF(m:Nat):AM.Frame:=[(2,.cells [.mS 4 7 0 m none 12]),(3,.cells [.int .i64 12])]
theorem Q5k(C F1 F2 F3 F4:AM.Frame)(m:Nat):
 CW Tp Qg 28 [.mS 4 7 0 m none 12,.int .i64 12] [C,F1,F2,F3,F4] fun r H' =>r= .ret (.func (.func 66) [] [.ptr 5 2 0,.ptr 5 3 0])/\H' =[C,F1,F2,F3,F4,chF m]:=by
 refine Zu Tryz.func28 rfl ?_;have c2:decide ((12:Int)<1)=false:=rfl;simp only[wX,↓Qc,simprocAttr,Tryz.ntmps28,c2];exact W.done (End.ret (v:= .func (.func 66) [] [.ptr 5 2 0,.ptr 5 3 0]) rfl ⟨rfl,Zj rfl⟩)
theorem Q73{m a b:Nat}(h:a<b)(hb:b<=m):∀g,Zn Tp g 34 (.mS 4 7 0 m none 12) (some (.int .i64 a)) (some (.int .i64 b)) (some (.int .i64 b))=some (.mS 4 7 (a*12) (b-a) (some (b-a)) 12):=by intro g;have ol:∀x:Nat,Jt (some (.int .i64 x))=some (some (x:Int)):=fun x=>rfl;simp only[Zn,ol,Zu2,Qdq,if_true,Qjg,Xh,Zpb,Option.isSome_some];rw[if_pos ⟨by omega,by omega,by omega,by omega,by omega,by omega,by simp⟩];simp;omega
theorem Q4y(m:Nat)(hm:m<=65536)(fo so:Nat)(H0:AM.Heap)(I:Nat->AM.Heap->Prop)(S:AM.Heap->Prop)(hI:∀j H,I j H->Qd H 5 2=some (.cells [.mS 4 7 0 m none 12])/\Qd H 5 3=some (.cells [.int .i64 12]))(h0:I 0 (H0++[[]]))
 (step:∀j H,12*j<m->I j H->∃b H',Qn Tp Qg none [.yield fo so,.mS 4 7 (12*j*12) (min (12*j+12) m-12*j) (some (min (12*j+12) m-12*j)) 12] H=some (.ret (.bool b),H')/\(b=true->I (j+1) H')/\(b=false->S H'))(last:∀j H,m<=12*j->I j H->S H):
 CW Tp Qg 66 [.yield fo so,.ptr 5 2 0,.ptr 5 3 0] H0 fun r H' =>r= .ret (.tuple [])/\∃HE,S HE/\H' =Yk H0.length (.tuple []) HE:=by
 refine Zu Tryz.func66 rfl ?_;have len:∀n g,Ku Tp g 34 (.mS 4 7 0 n none 12)=some (.int .i64 n):=fun n=>Qk5 Zu2;have len2:∀o n g,Ku Tp g 34 (.mS 4 7 o n none 12)=some (.int .i64 n):=fun o n=>Qk5 Zu2;simp only[wA,↓Qc,simprocAttr,Tryz.ntmps66,ta];refine W.ul ?_;refine W.loop (fun(j:Nat) t H=>Jg [0,1,2,4] t 0=Q93 (.yield fo so) (.ptr 5 2 0) (.ptr 5 3 0) (.int .i64 ((12*j:Nat):Int))/\j<=65536/\I j H) (fun j=>65536-j) ?_ 0 ⟨rfl,Zq1 _,h0⟩;rintro j t H ⟨ht,hj,hIj⟩;refine⟨_,_,Zx (kt:=[0,1,2,4]) rfl rfl,?_⟩;rw[ht];simp only[Q93];obtain⟨g2,g3⟩:=hI j H hIj;by_cases h:12*j<m
 . have c1:decide (((12*j:Nat):Int)<m)=true:=by simp only[decide_eq_true_eq];omega
   have sl1:=Qxa (n:=m) (i:=12*j) h;have mn:(if((m-12*j:Nat):Int)<(12:Int) then((m-12*j:Nat):Int) else(12:Int))=((min (12*j+12) m-12*j:Nat):Int):=by split<;>omega
   have w2:(IntKind.i64).wrap (((12*j:Nat):Int)+((min (12*j+12) m-12*j:Nat):Int))=((min (12*j+12) m:Nat):Int):=by rw[wrap_i64]<;>omega
   have w4:(IntKind.i64).wrap (((12*j:Nat):Int)+12)=((12*(j+1):Nat):Int):=by rw[wrap_i64]<;>omega
   have sl3:=Q73 (m:=m) (a:=12*j) (b:=min (12*j+12) m) (by omega) (by omega);obtain⟨b,H',st,hT,hF⟩:=step j H h hIj;generalize hP:min (12*j+12) m-12*j=q at*;generalize hQ:min (12*j+12) m=r at*;generalize hR:(12*(j+1):Nat)=e at*;generalize hS:(12*j:Nat)=p at*;simp only[wA,↓Qc,simprocAttr,ta,g2,g3,c1,len,len2,sl1,mn];refine W.opsK (by kernel_rfl) ?_;cases b
   . simp only[wA,↓Qc,simprocAttr,ta,g2,g3,c1,len,len2,sl1,mn,w2,sl3,st,Qaw,Qj3];refine W.done ?_;simp only[wA,↓Qc,simprocAttr];exact W.done (End.ret (v:= .tuple []) rfl ⟨rfl,_,hF rfl,rfl⟩)
   . obtain⟨g2',g3'⟩:=hI _ _ (hT rfl);simp only[wA,↓Qc,simprocAttr,ta,g2,g3,g2',g3',c1,len,len2,sl1,mn,w2,sl3,st,Qaw,Qj3,w4];exact W.done ⟨j+1,⟨by subst hR;rfl,by omega,hT rfl⟩,by omega⟩
 . have c1:decide (((12*j:Nat):Int)<m)=false:=by simp only[decide_eq_false_iff_not];omega
   simp only[wA,↓Qc,simprocAttr,ta,g2,g3,len,c1];refine W.done ?_;simp only[wA,↓Qc,simprocAttr];exact W.done (End.normal (v:= .tuple []) rfl ⟨rfl,_,last j _ (by omega) hIj,rfl⟩)
end Go.Proofs.YtjllfbejpjonnaaGreatDoor
namespace Go.Proofs.YtjllfbejpjonnaaGreatDoor
open Go.AM
attribute [local irreducible] U W
structure Yn(b w:V):Prop where
 ex:∃bl wl,Z2 b bl/\Jh w wl/\bl.length<=Y4/\wl.length<=Y4/\∀x∈wl,-9223372036854775808<=x.1/\x.1<=9223372036854775807
theorem Yn.sc{b w:V}(h:Yn b w):b.scalar=true/\w.scalar=true/\(∀q,b.refs q=false)/\(∀q,w.refs q=false):=by obtain⟨bl,wl,⟨_,_,h1⟩,⟨_,_,h2⟩,_⟩:=h.ex;exact⟨Q4 h1,Q4 h2,fun q=>Qw.noRefs h1 q,fun q=>Qw.noRefs h2 q⟩
theorem Yn.nil:Yn .nS .nS:=⟨[],[],⟨[],rfl,Qw.nil⟩,⟨[],rfl,Qw.nil⟩,by simp,by simp,fun x h=>by cases h⟩
abbrev F3W(nn:Int)(st:Nat)(p:Option (Option Nat))(T:List V):AM.Frame:=[(1,.cells [.ptr 1 14 0]),(3,.cells [.int .i64 nn]),(1000007,.loop st p 12 7 T)]
abbrev HW(C:AM.Frame)(a jc:List V)(F2:AM.Frame)(nn:Int)(st:Nat)(p:Option (Option Nat))(T cs:List V)(m:Nat):AM.Heap:=[C,[(2,.cells a),(14,.cells jc)],F2,F3W nn st p T,clF cs,chF m,[]]
section
variable {sv mv lw kw ow cw : V} {p : Kx} {C F2 : AM.Frame} {a : List V} {id many : Int}
theorem Qy6(hcl:∀b w e,Yn b w->Q2 (fun f _=>Nat.ble 3 f) [C,[(2,.cells a),(14,.cells (Qx (Qf b w sv mv lw kw ow cw p) id many e))],F2]=true)
 (hs:sv.scalar=true/\mv.scalar=true/\lw.scalar=true/\kw.scalar=true/\ow.scalar=true/\cw.scalar=true)
 (T:List V)(hT:T.length=111)(h1:T.getD 1 .bad= .ptr 3 1 0)(h3:T.getD 3 .bad= .ptr 3 3 0)(hr:Qi (fun f _=>Nat.ble 6 f) T=false)
 {b w:V}(hD:Yn b w)(nn:Int){cs:List V}{l:List Qp}{ds:List (List UInt8)}(hc:Qo cs l ds)(hK:∀c∈l,KOk c)(m pp q:Nat)(hq:q<=12)(hpq:pp+q<=l.length):
 ∃x H',Qn Tp Qg none [.yield 3 1000007,.mS 4 7 (pp*12) q (some q) 12] (HW C a (Qx (Qf b w sv mv lw kw ow cw p) id many 0) F2 nn 0 none T cs m)=some (.ret (.bool x),H')/\
  (x=true->∃b' w' nn',Yn b' w' /\H' =HW C a (Qx (Qf b' w' sv mv lw kw ow cw p) id many 0) F2 nn' 0 none T cs m)/\
  (x=false->∃b' w' nn' e,Yn b' w' /\e≠0/\H' =HW C a (Qx (Qf b' w' sv mv lw kw ow cw p) id many e) F2 nn' 2 (some none) T cs m):=by
 have hcl7:∀(b w:V) (e nn:Int) (st:Nat) (pe:Option (Option Nat)),Yn b w->WF (HW C a (Qx (Qf b w sv mv lw kw ow cw p) id many e) F2 nn st pe T cs m):=fun b w e nn st pe h=>by have k1:=Xm (Qa0 (n:=3) (m:=7) (by omega)) _ (hcl b w e h);have k2:=Zs (fun f _=>Nat.ble 7 f) [C,[(2,.cells a),(14,.cells (Qx (Qf b w sv mv lw kw ow cw p) id many e))],F2] [F3W nn st pe T,clF cs,chF m,[]];rw[k1] at k2;refine k2.trans ?_;have t7:(O.loop st pe 12 7 T).refs (fun f _=>Nat.ble 7 f)=false:=Kv (Qa0 (by omega)) T hr;simp only[F3W,clF,chF,Q2,Zg,Qbx,Qi,V.refs,t7,hc.refs];rfl
 obtain⟨s3,s4,s5,s6,s7,s8⟩:=hs;obtain⟨r1,r2,n1,n2⟩:=hD.sc;have hcp:=(hc.drop pp).take q;have hln:((l.drop pp).take q).length=q:=by simp only[Zo1,Zo2];omega
 have hcl:=Qbg hc;have hsl:Qw 12 (.iS ((cs.drop (pp*12)).take (q*12)) q (some q==some q)) ((cs.drop (pp*12)).take (q*12)) ((l.drop pp).take q).length:=by rw[hln];exact Qw.mk (by simp only[Zo1,Zo2];omega)
 have hblk:∀(gn n set:Int) (last:Bool),∃w L,Qe w L/\L.length=256/\∀d H,Qd H 4 7=some (.cells cs)->callOp Qg (Qn Tp Qg) 12 7 d 29 [.int .u32 gn,.int .i64 n,.int .i64 set,.mS 4 7 (pp*12) q (some q) 12,.bool last] H=some (.ret w,H):=fun gn n set last=>by obtain⟨r,H',e1,v0,w,L,rfl,hf,hw,hL⟩:=Q9b gn n set _ _ _ _ hcp hsl (by rw[hln];exact hq) (fun c h=>hK c (List.mem_of_mem_drop (List.mem_of_mem_take h))) last;refine⟨w,L,hw,hL,fun d H hg=>Qee rfl rfl rfl rfl (Qa rfl (Qa rfl (Qa rfl (Qa ?_ (Qa rfl rfl))))) e1 hf⟩;exact Qbt (g:=Qd H) (f:=4) (s:=7) (o:=pp*12) (len:=q) (esz:=12) (m:=10) (cap:=some q) (xs:=cs) hg (by omega) (Qgl hcp)
 obtain⟨bl,wl,hb,hw,b1,w1,w0⟩:=hD.ex;obtain⟨_,_,hb2⟩:=(show _ from hb);obtain⟨_,_,hw2⟩:=(show _ from hw);have fd:=Ks hb hw (fun _ _=>none);generalize hlg:(IntKind.i64).wrap (p.logged+nn)=lg at*;generalize hmn:(IntKind.i64).wrap (many-1)=mn at*;obtain⟨bw,L,hbw,hL,hm1⟩:=hblk p.gen lg id (nn==mn);have hadr:=Qdv ((IntKind.i64).wrap (4+p.logged)+nn);generalize hw4:(IntKind.i64).wrap (4+p.logged)=w4 at*;generalize had:(IntKind.i64).wrap (w4+nn)=ad at*;obtain⟨mv2,hres,hm⟩:=(Qnc hb hw b1 w1 w0 ad hadr hbw).op (by rfl) (Qa fd (Qa rfl (Qa (hbw.frz _) rfl)));have hm2:∀s H,_:=fun s H=>hm 12 7 s H rfl;have key:∃r H3,Qn Tp Qg none (.yield 3 1000007::[.mS 4 7 (pp*12) q (some q) 12]) (HW C a (Qx (Qf b w sv mv lw kw ow cw p) id many 0) F2 nn 0 none T cs m)=some (r,H3)/\∃x,r= .ret (.bool x)/\
  (x=true->∃b' w' nn',Yn b' w' /\H3=HW C a (Qx (Qf b' w' sv mv lw kw ow cw p) id many 0) F2 nn' 0 none T cs m)/\
  (x=false->∃b' w' nn' e,Yn b' w' /\e≠0/\H3=HW C a (Qx (Qf b' w' sv mv lw kw ow cw p) id many e) F2 nn' 2 (some none) T cs m):=by
  refine Qe3 (P:=Tp) (pol:=Qg) (fo:=3) (so:=1000007) (args:=[.mS 4 7 (pp*12) q (some q) 12]) (p:=none) (fL:=12) (rid:=7) (t0:=T) rfl (Qcw Tryz.func12 rfl rfl) rfl ?_;change W (U _ _ _ _ _ _ _ .normal (T.set 51 _) _) _;simp only[HW,F3W,clF,chF,Qx,Qf,Zo8,Zpu];simp only[wX,↓Qc,simprocAttr,Qaq,Qas,Qn1,Qnu,Zql,hT,h1,h3,Nat.reduceBEq];refine W.done ⟨rfl,none,12,7,T,rfl,?_⟩;simp only[wX,↓Qc,simprocAttr,Qaq,Qas,Qn1,Qnu,Zql,hT,h1,h3,Nat.reduceBEq,r1,r2,s3,s4,s5,s6,s7,s8,hlg,hmn,hm1];refine W.opsK (by kernel_rfl) ?_;rcases hres with⟨e,rfl,he⟩|⟨b',w',rfl,k1,k2,k3,k4,k5,k6⟩
  . have ce:(e !=0)=true:=by simpa using he
    simp only[wX,↓Qc,simprocAttr,Qaq,Qas,Qn1,Qnu,Zql,hT,h1,h3,Nat.reduceBEq,r1,r2,s3,s4,s5,s6,s7,s8,hlg,hmn,hm1,hw4,had,hm2];simp only[Ka,Op.operands,List.toList_toArray,List.filterMap_cons,List.filterMap_nil,wS,Qaq,Qas,Qn1,Qnu,Zql,hT,h1,h3,V.id?,Zou,Zo8,Zpu,simprocAttr];refine W.opsT (by kernel_rfl) ?_;simp only[wX,↓Qc,simprocAttr,Qaq,Qas,Qn1,Qnu,Zql,hT,h1,h3,Nat.reduceBEq,r1,r2,s3,s4,s5,s6,s7,s8,hlg,hmn,hm1,hw4,had,hm2,ce];refine W.done ⟨_,_,rfl,false,rfl,(fun h=>by cases h),fun _=>⟨.nS,.nS,nn,e,Yn.nil,he,?_⟩⟩;exact Zf (H:=HW C a (Qx (Qf .nS .nS sv mv lw kw ow cw p) id many e) F2 nn 2 (some none) T cs m) (G:=[[]]) (v:= .bool false) rfl (hcl7 .nS .nS e nn 2 (some none) Yn.nil)
  . have D2:Yn b' w' :=⟨bl,_,k1,k2,b1,by
     have:=k3;simp only[Jn,Zok,decide_eq_true_eq] at this;exact Zn7 (by omega:(wl++[(ad,L)]).length<=4096) (by decide),fun y hy=>by
     rcases Zog.1 hy with hy|hy
     . exact w0 y hy
     . rw[Zoh.1 hy];exact hadr⟩
    obtain⟨y1,y2,_,_⟩:=D2.sc;simp only[wX,↓Qc,simprocAttr,Qaq,Qas,Qn1,Qnu,Zql,hT,h1,h3,Nat.reduceBEq,r1,r2,s3,s4,s5,s6,s7,s8,hlg,hmn,hm1,hw4,had,hm2,y1,y2];simp only[Ka,Op.operands,List.toList_toArray,List.filterMap_cons,List.filterMap_nil,wS,Qaq,Qas,Qn1,Qnu,Zql,hT,h1,h3,V.id?,Zou,Zo8,Zpu,simprocAttr];refine W.opsT (by kernel_rfl) ?_;simp only[wX,↓Qc,simprocAttr,Qaq,Qas,Qn1,Qnu,Zql,hT,h1,h3,Nat.reduceBEq,r1,r2,s3,s4,s5,s6,s7,s8,hlg,hmn,hm1,hw4,had,hm2,y1,y2];refine W.done ⟨_,_,rfl,true,rfl,(fun _=>⟨b',w',(IntKind.i64).wrap (nn+1),D2,?_⟩),fun h=>by cases h⟩;exact Zf (H:=HW C a (Qx (Qf b' w' sv mv lw kw ow cw p) id many 0) F2 ((IntKind.i64).wrap (nn+1)) 0 none T cs m) (G:=[[]]) (v:= .bool true) rfl (hcl7 b' w' 0 _ 0 none D2)
 obtain⟨r,H3,e1,x,rfl,h⟩:=key;exact⟨x,H3,e1,h⟩
end
end Go.Proofs.YtjllfbejpjonnaaGreatDoor
namespace Go.Proofs.YtjllfbejpjonnaaGreatDoor
open Go.AM
attribute [local irreducible] U W
section
variable {sv mv lw kw ow cw : V} {p : Kx} {C F2 : AM.Frame} {a : List V} {id many : Int}
abbrev HW6(C:AM.Frame)(a jc:List V)(F2:AM.Frame)(nn:Int)(st:Nat)(p:Option (Option Nat))(T cs:List V)(m:Nat):AM.Heap:=[C,[(2,.cells a),(14,.cells jc)],F2,F3W nn st p T,clF cs,chF m]
theorem Q1x(hcl:∀b w e,Yn b w->Q2 (fun f _=>Nat.ble 3 f) [C,[(2,.cells a),(14,.cells (Qx (Qf b w sv mv lw kw ow cw p) id many e))],F2]=true)
 (hs:sv.scalar=true/\mv.scalar=true/\lw.scalar=true/\kw.scalar=true/\ow.scalar=true/\cw.scalar=true)
 (T:List V)(hT:T.length=111)(h1:T.getD 1 .bad= .ptr 3 1 0)(h3:T.getD 3 .bad= .ptr 3 3 0)(hr:Qi (fun f _=>Nat.ble 6 f) T=false)
 {b w:V}(hD:Yn b w)(nn:Int){cs:List V}{l:List Qp}{ds:List (List UInt8)}(hc:Qo cs l ds)(hK:∀c∈l,KOk c)(m:Nat)(hm:m<=l.length)(hl:l.length<=65536):
 CW Tp Qg 66 [.yield 3 1000007,.ptr 5 2 0,.ptr 5 3 0] (HW6 C a (Qx (Qf b w sv mv lw kw ow cw p) id many 0) F2 nn 0 none T cs m) fun r H' =>r= .ret (.tuple [])/\
  ((∃b' w' nn',Yn b' w' /\H' =HW6 C a (Qx (Qf b' w' sv mv lw kw ow cw p) id many 0) F2 nn' 0 none T cs m)\/
   ∃b' w' nn' e,Yn b' w' /\e≠0/\H' =HW6 C a (Qx (Qf b' w' sv mv lw kw ow cw p) id many e) F2 nn' 2 (some none) T cs m):=by
 have hcl6:∀(b w:V) (e nn:Int) (st:Nat) (pe:Option (Option Nat)),Yn b w->WF (HW6 C a (Qx (Qf b w sv mv lw kw ow cw p) id many e) F2 nn st pe T cs m):=fun b w e nn st pe h=>by have k1:=Xm (Qa0 (n:=3) (m:=6) (by omega)) _ (hcl b w e h);have k2:=Zs (fun f _=>Nat.ble 6 f) [C,[(2,.cells a),(14,.cells (Qx (Qf b w sv mv lw kw ow cw p) id many e))],F2] [F3W nn st pe T,clF cs,chF m];rw[k1] at k2;refine k2.trans ?_;have t7:(O.loop st pe 12 7 T).refs (fun f _=>Nat.ble 6 f)=false:=hr;simp only[F3W,clF,chF,Q2,Zg,Qbx,Qi,V.refs,t7,hc.refs];rfl
 refine(Q4y m (by omega) 3 1000007 (HW6 C a (Qx (Qf b w sv mv lw kw ow cw p) id many 0) F2 nn 0 none T cs m)
  (fun j H=>∃b' w' nn',Yn b' w' /\H=HW C a (Qx (Qf b' w' sv mv lw kw ow cw p) id many 0) F2 nn' 0 none T cs m)
  (fun H=>(∃b' w' nn',Yn b' w' /\H=HW C a (Qx (Qf b' w' sv mv lw kw ow cw p) id many 0) F2 nn' 0 none T cs m)\/∃b' w' nn' e,Yn b' w' /\e≠0/\H=HW C a (Qx (Qf b' w' sv mv lw kw ow cw p) id many e) F2 nn' 2 (some none) T cs m)
  ?_ ⟨b,w,nn,hD,rfl⟩ ?_ ?_).mono ?_
 . rintro j H ⟨b',w',nn',_,rfl⟩;exact⟨rfl,rfl⟩
 . rintro j H hj ⟨b',w',nn',hD',rfl⟩;obtain⟨x,H',e1,hT',hF'⟩:=Qy6 hcl hs T hT h1 h3 hr hD' nn' hc hK m (12*j) (min (12*j+12) m-12*j) (by omega) (by omega);exact⟨x,H',e1,hT',fun h=> .inr (hF' h)⟩
 . rintro j H _ h;exact .inl h
 . rintro r H ⟨rfl,HE,h,rfl⟩;refine⟨rfl,?_⟩;rcases h with⟨b',w',nn',hD',rfl⟩|⟨b',w',nn',e,hD',he,rfl⟩
   . exact .inl ⟨b',w',nn',hD',Zf (H:=HW6 C a (Qx (Qf b' w' sv mv lw kw ow cw p) id many 0) F2 nn' 0 none T cs m) (G:=[[]]) (v:= .tuple []) rfl (hcl6 b' w' 0 nn' 0 none hD')⟩
   . exact .inr ⟨b',w',nn',e,hD',he,Zf (H:=HW6 C a (Qx (Qf b' w' sv mv lw kw ow cw p) id many e) F2 nn' 2 (some none) T cs m) (G:=[[]]) (v:= .tuple []) rfl (hcl6 b' w' e nn' 2 (some none) hD')⟩
end
section
variable {sv mv lw kw ow : V} {p : Kx} {C : AM.Frame} {a pc z c75 : List V} {ol ok oo : O} {id many : Int}
def Zeg(C:AM.Frame)(a:List V)(sv mv lw kw ow cw:V)(p:Kx)(id many:Int)(pc z c75:List V)(ol oc ok oo:O)(r:Rt)(H' :AM.Heap):Prop:=
 r= .ret (.tuple [])/\∃e b w,Yn b w/\H' =HJ C a (Qx (Qf b w sv mv lw kw ow cw p) id many e) pc z c75 ol oc ok oo
set_option maxHeartbeats 8000000 in
theorem Zaz{n:Nat}{cap:Option Nat}{cs:List V}(hcl:∀b w e,Yn b w->Q2 (fun f _=>Nat.ble 3 f) (HJ C a (Qx (Qf b w sv mv lw kw ow (.mS 2 21 0 n cap 12) p) id many e) pc z c75 ol (.cells cs) ok oo)=true)
 (hs:sv.scalar=true/\mv.scalar=true/\lw.scalar=true/\kw.scalar=true/\ow.scalar=true)
 {b w:V}(hD:Yn b w){l:List Qp}{ds:List (List UInt8)}(hc:Qo cs l ds)(hln:l.length=n)(hn0:0<n)(hn:n<=65536)(hK:∀c∈l,KOk c)(hm0:many≠0):
 CW Tp Qg 12 [.ptr 1 14 0] (HJ C a (Qx (Qf b w sv mv lw kw ow (.mS 2 21 0 n cap 12) p) id many 0) pc z c75 ol (.cells cs) ok oo) (Zeg C a sv mv lw kw ow (.mS 2 21 0 n cap 12) p id many pc z c75 ol (.cells cs) ok oo):=by
 refine Zu Tryz.func12 rfl ?_;obtain⟨s3,s4,s5,s6,s7⟩:=hs;obtain⟨r1,r2,n1,n2⟩:=hD.sc;have c0:((0:Int) !=0)=false:=rfl;have cm:(many==0)=false:=by simpa using hm0
 have hcs:=Qbg hc;obtain⟨bl,wl,hb,hw,b1,w1,w0⟩:=hD.ex;obtain⟨m,⟨d,e,rfl,hres⟩,hm⟩:=(Qm6 hb hw b1 w1 w0).op (by rfl) (Qa (Ks hb hw (fun _ _=>none)) rfl);have hm1:∀s H,_:=fun s H=>hm 12 3 s H rfl;rcases hres with⟨rfl,rows,l1,l2,rfl⟩|⟨he,rfl⟩
 . have D1:Yn (Kb rows) .nS:=⟨rows,[],⟨_,Qh7 _ rows l2,by have:=Qhg rows l1;rw[l1];exact this⟩,⟨[],rfl,Qw.nil⟩,by rw[l1];decide,by simp,fun x h=>by cases h⟩;have sr:(Kb rows).scalar=true:=rfl;have nr:∀q,(Kb rows).refs q=false:=D1.sc.2.2.1;have clA:=hcl (Kb rows) .nS 0 D1;have hsc:=hc.pure.2;have clB:Q2 (fun f _=>Nat.ble 3 f) (HJ C a (Qx (Qf (Kb rows) .nS sv mv lw kw ow (.mS 2 21 0 n cap 12) p) id many 0) pc z c75 ol (.cells cs) ok oo++[[(1,.cells [.ptr 1 14 0])]])=true:=by
    rw[Zs,clA];rfl
   obtain⟨r,H',e1,rfl,rfl⟩:=Q67 C [(2,.cells a),(14,.cells (Qx (Qf (Kb rows) .nS sv mv lw kw ow (.mS 2 21 0 n cap 12) p) id many 0))] (twF pc z c75 ol (.cells cs) ok oo) [(1,.cells [.ptr 1 14 0])] cs n cap rfl (by omega) hn0 hn hsc;have hcl1:∀d,callOp Qg (Qn Tp Qg) 12 3 d 26 [.mS 2 21 0 n cap 12] [C,[(2,.cells a),(14,.cells (Qx (Qf (Kb rows) .nS sv mv lw kw ow (.mS 2 21 0 n cap 12) p) id many 0))],twF pc z c75 ol (.cells cs) ok oo,[(1,.cells [.ptr 1 14 0])]]=_:=fun d=>Za rfl rfl rfl e1;subst hln;obtain⟨r,H',e2,m,cs',l',ds',rfl,rfl,hc',hl',hmn,hK'⟩:=Q6g C (twF pc z c75 ol (.cells cs) ok oo) a (Kb rows) .nS sv mv lw kw ow (.mS 2 21 0 l.length cap 12) p id many 0 l ds cs hc hn hK clB;have hdl:∀d,callOp Qg (Qn Tp Qg) 12 3 d 25 [.mS 4 7 0 l.length none 12,.func (.func 27) [] [.ptr 3 1 0]] [C,[(2,.cells a),(14,.cells (Qx (Qf (Kb rows) .nS sv mv lw kw ow (.mS 2 21 0 l.length cap 12) p) id many 0))],twF pc z c75 ol (.cells cs) ok oo,[(1,.cells [.ptr 1 14 0])],clF cs]=_:=fun d=>Za rfl rfl rfl e2;obtain⟨r,H',e3,rfl,rfl⟩:=Q5k C [(2,.cells a),(14,.cells (Qx (Qf (Kb rows) .nS sv mv lw kw ow (.mS 2 21 0 l.length cap 12) p) id many 0))] (twF pc z c75 ol (.cells cs) ok oo) [(1,.cells [.ptr 1 14 0]),(3,.cells [.int .i64 0])] (clF cs') m;have hch:∀d,callOp Qg (Qn Tp Qg) 12 3 d 28 [.mS 4 7 0 m none 12,.int .i64 12] [C,[(2,.cells a),(14,.cells (Qx (Qf (Kb rows) .nS sv mv lw kw ow (.mS 2 21 0 l.length cap 12) p) id many 0))],twF pc z c75 ol (.cells cs) ok oo,[(1,.cells [.ptr 1 14 0]),(3,.cells [.int .i64 0])],clF cs']=_:=fun d=>Za rfl rfl rfl e3;simp only[HJ,twF,Qx,Qf,clF,chF,Zo8,Zpu] at hcl1 hdl hch⊢;simp only[wX,↓Qc,simprocAttr,Tryz.ntmps12,c0,cm,s3,s4,s5,s6,s7,r1,r2,hm1,sr];refine W.opsT (by kernel_rfl) ?_;simp only[wX,↓Qc,simprocAttr,c0,cm,s3,s4,s5,s6,s7,r1,r2,hm1,sr,hcl1,hdl,hch];have scw:(V.mS 2 21 0 l.length cap 12).scalar=true:=rfl;have clW:∀b w e nn,Yn b w->Q2 (Jd 3 1000007) [C,[(2,.cells a),(14,.cells (Qx (Qf b w sv mv lw kw ow (.mS 2 21 0 l.length cap 12) p) id many e))],twF pc z c75 ol (.cells cs) ok oo,[(1,.cells [.ptr 1 14 0]),(3,.cells [.int .i64 nn])],clF cs',chF m]=true:=fun b w e nn h=>by
    have k1:=Xm (q:=fun f _=>Nat.ble 3 f) (p:=Jd 3 1000007) (fun f s h=>by
     simp only[Jd,Zok,beq_iff_eq] at h
     rw[h.1];rfl) _ (hcl b w e h)
    have k2:=Zs (Jd 3 1000007) (HJ C a (Qx (Qf b w sv mv lw kw ow (.mS 2 21 0 l.length cap 12) p) id many e) pc z c75 ol (.cells cs) ok oo) [[(1,.cells [.ptr 1 14 0]),(3,.cells [.int .i64 nn])],clF cs',chF m];rw[k1] at k2;refine k2.trans ?_;simp only[clF,chF,Q2,Zg,Qbx,Qi,V.refs,hc'.refs];rfl
   have pop:=fun b w e nn (h:Yn b w)=>Zf (H:=HJ C a (Qx (Qf b w sv mv lw kw ow (.mS 2 21 0 l.length cap 12) p) id many e) pc z c75 ol (.cells cs) ok oo) (G:=[[(1,.cells [.ptr 1 14 0]),(3,.cells [.int .i64 nn])],clF cs',chF m]) (v:= .tuple []) rfl (Qdo (hcl b w e h) (by simp));have hH:∀b w e nn st pe T,List.modify (HW6 C a (Qx (Qf b w sv mv lw kw ow (.mS 2 21 0 l.length cap 12) p) id many e) (twF pc z c75 ol (.cells cs) ok oo) nn st pe T cs' m) 3 (Ju fun x=>[Zd 7].contains x)=HJ C a (Qx (Qf b w sv mv lw kw ow (.mS 2 21 0 l.length cap 12) p) id many e) pc z c75 ol (.cells cs) ok oo++[[(1,.cells [.ptr 1 14 0]),(3,.cells [.int .i64 nn])],clF cs',chF m]:=fun b w e nn st pe T=>rfl;refine W.rfunc (rid:=7) rfl rfl rfl ?_;refine(Q1x (F2:=twF pc z c75 ol (.cells cs) ok oo) hcl ⟨s3,s4,s5,s6,s7,scw⟩ _ rfl rfl rfl ?_ D1 0 hc' hK' m (by omega) (by omega)).mono ?_
   . simp only[Qi,V.refs,n1,n2,nr];rfl
   rintro r H2 ⟨rfl,⟨b',w',nn',hD',rfl⟩|⟨b',w',nn',e,hD',he,rfl⟩⟩
   . refine⟨_,rfl,?_⟩;rw[Qjk (st:=0) (f:=12) (r:=7) rfl (by decide) (by simp only[Qi,V.refs,n1,n2,nr];rfl) (clW b' w' 0 nn' hD')];rw[hH];simp only[wA,↓Qc,simprocAttr];exact W.done (End.normal (v:= .tuple []) rfl ⟨rfl,0,b',w',hD',pop b' w' 0 nn' hD'⟩)
   . refine⟨_,rfl,?_⟩;rw[Qxy (st:=2) (f:=12) (r:=7) rfl (by decide) (by simp only[Qi,V.refs,n1,n2,nr];rfl) (clW b' w' e nn' hD')];rw[hH];simp only[wA,↓Qc,simprocAttr];exact W.done (End.ret (v:= .tuple []) rfl ⟨rfl,e,b',w',hD',pop b' w' e nn' hD'⟩)
 . have ce:(e !=0)=true:=by simpa using he
   simp only[HJ,twF,Qx,Qf,Zo8,Zpu];simp only[wX,↓Qc,simprocAttr,Tryz.ntmps12,c0,cm,s3,s4,s5,s6,s7,r1,r2,hm1];refine W.opsT (by kernel_rfl) ?_;simp only[wX,↓Qc,simprocAttr,c0,cm,s3,s4,s5,s6,s7,r1,r2,hm1,ce];have pop:=Zf (H:=HJ C a (Qx (Qf .nS .nS sv mv lw kw ow (.mS 2 21 0 n cap 12) p) id many e) pc z c75 ol (.cells cs) ok oo) (G:=[[(1,.cells [.ptr 1 14 0])]]) (v:= .tuple []) rfl (Qdo (hcl _ _ e Yn.nil) (by simp));exact W.done (End.ret (v:= .tuple []) rfl ⟨rfl,e,.nS,.nS,Yn.nil,pop⟩)
end
end Go.Proofs.YtjllfbejpjonnaaGreatDoor
namespace Go.Proofs.YtjllfbejpjonnaaGreatDoor
open Go.AM
attribute [local irreducible] U W
theorem Qov{id b ep c0:Int}:∀{l m:List Qp} {k k' :Nat},Bz id b ep c0 k l m k' ->(∀c∈l,KOk c)->∀c∈m,KOk c
 |[],[],_,_,_,_=>fun c h=>by cases h
 |[],_::_,_,_,h,_=>h.elim
 |_::_,[],_,_,h,_=>h.elim
 |x::l,d::m,k,k',h,hl=>by
  intro c hc;rcases h with⟨rfl,h⟩|⟨_,_,_,⟨pt,t,s,rfl⟩,h⟩
  . rcases Zph.1 hc with rfl|hc
    . exact hl _ (by simp)
    . exact Qov h (fun c hc=>hl c (by simp[hc])) c hc
  . rcases Zph.1 hc with rfl|hc
    . exact hl x (by simp)
    . exact Qov h (fun c hc=>hl c (by simp[hc])) c hc
theorem Q30{b w s mv lw kw ow cw:V}{ol oc oc0 ok oo:O}{x:Kc}{sp:List UInt8}{cs' :List V}{L' :List Qp}(hD:Yn b w)(q3:Qe s sp)(q4:Xg mv x.p.own)(q5:Qh8 2 x lw kw ow cw ol oc0 ok oo)(a2:Bj 2 21 12 x.p.changes.length cs' cw oc)(b2:Qo cs' L' x.datas)(hl:L'.length=x.p.changes.length){g:Get}
 (g1:g 2 18=some ol)(g2:g 2 21=some oc)(g3:g 2 65=some ok)(g4:g 2 68=some oo)(p:Kx):
 ∃l k o c,AM.frz g 11 (.agg (Qf b w s mv lw kw ow cw p))=some (.agg (Qf b w s mv l k o c p))/\(b.scalar=true/\w.scalar=true/\s.scalar=true/\mv.scalar=true/\l.scalar=true/\k.scalar=true/\o.scalar=true/\c.scalar=true/\Qu [b,w,s,mv,l,k,o,c]=true)/\Qw 12 c cs' x.p.changes.length:=by
 obtain⟨c1,a1,b1⟩:=q5.lines;obtain⟨c3,a3,b3⟩:=q5.keys;obtain⟨c4,a4,b4⟩:=q5.loaded;obtain⟨w1,e1,f1⟩:=a1.frz (m:=8) (Qf9 b1) g1 (Qkf b1);obtain⟨w2,e2,f2⟩:=a2.frz (m:=8) (by rw[<-hl];exact Qbg b2) g2 (Qgl b2);obtain⟨w3,e3,f3⟩:=a3.frz (m:=8) (Qjw b3) g3 (Qjm b3);obtain⟨w4,e4,f4⟩:=a4.frz (m:=8) (Qjw b4) g4 (Qjm b4);obtain⟨bl,wl,⟨_,_,h1⟩,⟨_,_,h2⟩,_⟩:=hD.ex;refine⟨w1,w3,w4,w2,?_,⟨Q4 h1,Q4 h2,Q4 q3,Q4 q4,Q4 f1,Q4 f3,Q4 f4,Q4 f2,by simp only[Qu,h1.pure,h2.pure,Qw.pure q3,Qw.pure q4,f1.pure,f3.pure,f4.pure,f2.pure,Zqc]⟩,f2⟩;show Option.map V.agg (Q5 (AM.frz _ 10) (Qf b w s mv lw kw ow cw p))=_;have e:Q5 (AM.frz g 10) (Qf b w s mv lw kw ow cw p)=some (Qf b w s mv w1 w3 w4 w2 p):=by simp only[Qf];exact Qa (h1.frz 9) (Qa (h2.frz 9) (Qa (Qw.frz q3 9) (Qa rfl (Qa rfl (Qa rfl (Qa rfl (Qa rfl (Qa rfl (Qa rfl (Qa rfl (Qa (Qw.frz q4 9) (Qa e1 (Qa e3 (Qa e4 (Qa e2 (Qa rfl (Qa rfl (Qa rfl rfl))))))))))))))))))
 rw[e];rfl
def Zet(x:Kc)(id:Int)(r:V):Prop:=(∃e:Int,e≠0/\r= .tuple [.agg Yy,.int .i64 e])\/
 ∃(b w s m l k o c:V) (ep ct lg:Int) (L' :List Qp) (cs' :List V) (n:Nat),r= .tuple [.agg (Qf b w s m l k o c {x.p with epoch:=ep,count:=ct,logged:=lg}),.int .i64 0]/\
  (b.scalar=true/\w.scalar=true/\s.scalar=true/\m.scalar=true/\l.scalar=true/\k.scalar=true/\o.scalar=true/\c.scalar=true/\Qu [b,w,s,m,l,k,o,c]=true)/\
  Qo cs' L' x.datas/\Qw 12 c cs' x.p.changes.length/\ct=x.p.count+n/\Bz id (x.p.gen+1) x.p.epoch x.p.count 0 x.p.changes L' n/\Qaz x=true
section
variable {bv wv sv mv lv kv ov cv : V} {x : Kc}
set_option maxHeartbeats 8000000 in
theorem Q61(h:K5 bv wv sv mv lv kv ov cv x)(f:x.Fits)(id:Int):Fz Tp Qg 6 [.agg (Qf bv wv sv mv lv kv ov cv x.p),.int .i64 id] (Zet x id):=by
 refine Zm Tryz.func6 rfl ?_;obtain⟨s1,s2,s3,s4,s5,s6,s7,s8⟩:=Qia h;have hC:Zg (fun f _=>Nat.ble 1 f) [(2,.cells (Qf bv wv sv mv lv kv ov cv x.p)),(4,.cells Yy)]=true:=by simp only[Zg,Qbx,Qe7 h];rfl
 have ha:Qi (fun f _=>Nat.ble 3 f) (Qf bv wv sv mv lv kv ov cv x.p)=false:=Qe7 h _;obtain⟨r,H',e1,rfl,hO⟩:=Zdm [(2,.cells (Qf bv wv sv mv lv kv ov cv x.p)),(4,.cells Yy)] hC h f id;have hop:∀d,callOp Qg (Qn Tp Qg) 6 0 d 10 [.agg (Qf bv wv sv mv lv kv ov cv x.p),.int .i64 id] [[(2,.cells (Qf bv wv sv mv lv kv ov cv x.p)),(4,.cells Yy)]]=some (.ret (.ptr 1 14 0),H'):=fun d=>Za rfl rfl rfl e1;rcases hO with⟨hok,rfl⟩|⟨hok,many,e,bv',wv',sv',mv',lw,kw,ow,cw,ol,oc,ok,oo,pc,z,c75,hout,rfl⟩
 . have hW:WF [[(2,.cells (Qf bv wv sv mv lv kv ov cv x.p)),(4,.cells Yy)],[(2,.cells (Qf bv wv sv mv lv kv ov cv x.p)),(14,.cells (Qx (Qf bv wv sv mv lv kv ov cv x.p) id 0 8))]]:=by
    show Q2 _ _=true;simp only[Q2,Zg,Qbx,Qe7 h,Qw9 h];rfl
   obtain⟨r,H',e2,rfl,rfl⟩:=Qwr _ _ _ _ _ _ _ _ _ _ _ _ _ _ (by decide) hW;have hse:∀d,callOp Qg (Qn Tp Qg) 6 0 d 11 [.ptr 1 14 0] _=_:=fun d=>Za rfl rfl rfl e2;obtain⟨r,H',e3,rfl,rfl⟩:=Qvf _ _ _ _ _ _ _ _ _ _ _ _ _ _ (by decide) hW;have hwr:∀d,callOp Qg (Qn Tp Qg) 6 0 d 12 [.ptr 1 14 0] _=_:=fun d=>Za rfl rfl rfl e3;have c1:((8:Int)==0)=false:=rfl;have c2:((8:Int) !=0)=true:=rfl;simp only[Qf,Qx,Yy,Zo8,Zpu] at hop hse hwr⊢;simp only[wX,↓Qc,simprocAttr,Tryz.ntmps6,s1,s2,s3,s4,s5,s6,s7,s8,hop,hse,hwr,c1,c2];refine W.opsT (by kernel_rfl) ?_;simp only[wX,↓Qc,simprocAttr,s1,s2,s3,s4,s5,s6,s7,s8,hop,hse,hwr,c1,c2];exact W.done (Q0.ret (v:= .tuple [.agg Yy,.int .i64 8]) rfl rfl (.inl ⟨8,by decide,rfl⟩))
 . have good:=Qh3 hok;have S0:Xn bv' wv' sv' x.blocks x.waits x.space:=⟨hout.blocks,hout.waits,hout.space,f.blocks,f.waits,f.wat⟩;obtain⟨cs0,hoc0,hcd0⟩:=hout.twin.changes;obtain⟨t1,t2,t3,t4,t5,t6,t7,t8,_⟩:=Qeo hout.blocks hout.waits hout.space hout.own hout.twin;by_cases he:e=0
   . subst he;obtain⟨r,H',e2,rfl,e1,b,w,s,ep,ct,oc',cs',L',rfl,hJ⟩:=Zdf [(2,.cells (Qf bv wv sv mv lv kv ov cv x.p)),(4,.cells Yy)] hC f hok hout (Qf bv wv sv mv lv kv ov cv x.p) ha;have hse:∀d,callOp Qg (Qn Tp Qg) 6 0 d 11 [.ptr 1 14 0] _=_:=fun d=>Za rfl rfl rfl e2;obtain⟨bl,wl,sp,S1,hS1⟩:=hJ.st;obtain⟨_,_,v1⟩:=(show _ from S1.blocks);obtain⟨_,_,v2⟩:=(show _ from S1.waits);have y1:=Q4 v1;have y2:=Q4 v2;have y3:=Q4 S1.space;have cl:=Qs6 hC ha hout.fr hout.own hout.twin S1 hJ.own hJ.ch ep ct id many e1;have hW:=Qdo cl (by simp);by_cases he1:e1=0
     . subst he1;obtain⟨rfl,k,rfl,hSS⟩:=hJ.ok rfl;have hSe:=hSS.end_ (Zn6 _);have hD:Yn b w:=⟨bl,wl,S1.blocks,S1.waits,S1.b1,S1.w1,S1.w0⟩;have c1:((0:Int)==0)=true:=rfl;have c2:((0:Int) !=0)=false:=rfl;by_cases hm:many=0
       . obtain⟨r,H',e3,rfl,rfl⟩:=Qvw _ _ _ _ _ _ _ _ _ _ _ _ _ _ _ rfl hm hW;have hwr:∀d,callOp Qg (Qn Tp Qg) 6 0 d 12 [.ptr 1 14 0] _=_:=fun d=>Za rfl rfl rfl e3;have c3:decide (many>0)=false:=by rw[hm];rfl
         obtain⟨l',k',o',c',hf,hsc,hsl⟩:=Q30 hD S1.space hout.own hout.twin hJ.own hJ.ch hJ.len (g:=Qd [[(2,.cells (Qf bv wv sv mv lv kv ov cv x.p)),(4,.cells (Qf b w s mv' lw kw ow cw (Ki x.p x.p.epoch (x.p.count+k))))],[(2,.cells (Qf bv wv sv mv lv kv ov cv x.p)),(14,.cells (Qx (Qf b w s mv' lw kw ow cw (Ki x.p x.p.epoch (x.p.count+k))) id many 0))],twF pc z c75 ol oc' ok oo]) rfl rfl rfl rfl (Ki x.p x.p.epoch (x.p.count+k));simp only[Qf,Qx,Yy,Ki,twF,HJ,Zo8,Zpu] at hop hse hwr hf⊢;simp only[wX,↓Qc,simprocAttr,Tryz.ntmps6,s1,s2,s3,s4,s5,s6,s7,s8,y1,y2,y3,t4,t5,t6,t7,t8,hop,hse,hwr,c1,c2,c3];exact W.done (Q0.ret (v:= .tuple [.agg (Qf b w s mv' lw kw ow cw (Ki x.p x.p.epoch (x.p.count+k))),.int .i64 0]) rfl (K3 (Qa hf (Qa rfl rfl))) (.inr ⟨b,w,s,mv',l',k',o',c',_,_,x.p.logged,L',cs',k,rfl,hsc,hJ.ch,hsl,rfl,hSe,hok⟩))
       . have hn0:0<x.p.changes.length:=by
          have h1:=hout.mn;have h2:=Qt6 x.p.changes id;omega
         obtain⟨cap,rfl,rfl⟩:∃cap,cw= .mS 2 21 0 x.p.changes.length cap 12/\oc' = .cells cs' :=by
          rcases hJ.own with⟨n0,_⟩|h
          . omega
          . exact h
         have hKL:∀c∈L',KOk c:=Qov hSe fun c hc=>Qzq (good.change c hc);obtain⟨r,H',e3,rfl,e2,b2,w2,hD2,rfl⟩:=Zaz (C:=[(2,.cells (Qf bv wv sv mv lv kv ov cv x.p)),(4,.cells Yy)]) (a:=Qf bv wv sv mv lv kv ov cv x.p) (pc:=pc) (z:=z) (c75:=c75) (ol:=ol) (ok:=ok) (oo:=oo) (id:=id) (many:=many) (n:=x.p.changes.length) (cap:=cap) (cs:=cs') (p:=Ki x.p x.p.epoch (x.p.count+k))
          (fun b w e hD=>by
            obtain⟨bl,wl,d1,d2,d3,d4,d5⟩:=hD.ex
            exact Qs6 hC ha hout.fr hout.own hout.twin (⟨d1,d2,S1.space,d3,d4,d5⟩:Xn b w s bl wl sp) hJ.own hJ.ch x.p.epoch (x.p.count+k) id many e)
          ⟨y3,t4,t5,t6,t7⟩ hD hJ.ch hJ.len hn0 (Bv hok) hKL hm
         have hwr:∀d,callOp Qg (Qn Tp Qg) 6 0 d 12 [.ptr 1 14 0] _=_:=fun d=>Za rfl rfl rfl e3;have c3:decide (many>0)=true:=by have:=hout.mn;exact Zrh (by omega)
         obtain⟨z1,z2,_,_⟩:=hD2.sc;by_cases he2:e2=0
         . subst he2;obtain⟨bl2,wl2,d1,d2,d3,d4,d5⟩:=hD2.ex;obtain⟨mm,⟨dd,e4,rfl,hres⟩,hmm⟩:=(Qm6 d1 d2 d3 d4 d5).op (by rfl) (Qa (Ks d1 d2 (fun _ _=>none)) rfl);have hfl:∀s H,_:=fun s H=>hmm 6 0 s H rfl;rcases hres with⟨rfl,rows,l1,l2,rfl⟩|⟨he4,rfl⟩
           . have D3:Yn (Kb rows) .nS:=⟨rows,[],⟨_,Qh7 _ rows l2,by have:=Qhg rows l1;rw[l1];exact this⟩,⟨[],rfl,Qw.nil⟩,by rw[l1];decide,by simp,fun x h=>by cases h⟩;have sr:(Kb rows).scalar=true:=rfl;obtain⟨lg,hlg⟩:∃lg,lg=(IntKind.i64).wrap (x.p.logged+many):=⟨_,rfl⟩;obtain⟨l',k',o',c',hf,hsc,hsl⟩:=Q30 D3 S1.space hout.own hout.twin hJ.own hJ.ch hJ.len (g:=Qd [[(2,.cells (Qf bv wv sv mv lv kv ov cv x.p)),(4,.cells (Qf (Kb rows) .nS s mv' lw kw ow (.mS 2 21 0 x.p.changes.length cap 12) {Ki x.p x.p.epoch (x.p.count+k) with logged:=lg}))],[(2,.cells (Qf bv wv sv mv lv kv ov cv x.p)),(14,.cells (Qx (Qf (Kb rows) .nS s mv' lw kw ow (.mS 2 21 0 x.p.changes.length cap 12) {Ki x.p x.p.epoch (x.p.count+k) with logged:=lg}) id many 0))],twF pc z c75 ol (.cells cs') ok oo]) rfl rfl rfl rfl {Ki x.p x.p.epoch (x.p.count+k) with logged:=lg};simp only[Qf,Qx,Yy,Ki,twF,HJ,Zo8,Zpu] at hop hse hwr hf⊢;simp only[wX,↓Qc,simprocAttr,Tryz.ntmps6,s1,s2,s3,s4,s5,s6,s7,s8,z1,z2,y3,t4,t5,t6,t7,t8,sr,hop,hse,hwr,hfl,c1,c2,c3,<-hlg];refine W.opsT (by kernel_rfl) ?_;simp only[wX,↓Qc,simprocAttr,s1,s2,s3,s4,s5,s6,s7,s8,z1,z2,y3,t4,t5,t6,t7,t8,sr,c1,c2,c3];exact W.done (Q0.ret (v:= .tuple [.agg (Qf (Kb rows) .nS s mv' lw kw ow (.mS 2 21 0 x.p.changes.length cap 12) {Ki x.p x.p.epoch (x.p.count+k) with logged:=lg}),.int .i64 0]) rfl (K3 (Qa hf (Qa rfl rfl))) (.inr ⟨Kb rows,.nS,s,mv',l',k',o',c',_,_,lg,L',cs',k,rfl,hsc,hJ.ch,hsl,rfl,hSe,hok⟩))
           . have d1' :(e4==0)=false:=by simpa using he4
             have d2' :(e4 !=0)=true:=by simpa using he4
             simp only[Qf,Qx,Yy,Ki,twF,HJ,Zo8,Zpu] at hop hse hwr⊢;simp only[wX,↓Qc,simprocAttr,Tryz.ntmps6,s1,s2,s3,s4,s5,s6,s7,s8,z1,z2,y3,t4,t5,t6,t7,t8,hop,hse,hwr,hfl,c1,c2,c3,d1',d2'];refine W.opsT (by kernel_rfl) ?_;simp only[wX,↓Qc,simprocAttr,s1,s2,s3,s4,s5,s6,s7,s8,z1,z2,y3,t4,t5,t6,t7,t8,c1,c2,c3,d1',d2'];refine W.opsT (by kernel_rfl) ?_;simp only[wX,↓Qc,simprocAttr,s1,s2,s3,s4,s5,s6,s7,s8,z1,z2,y3,t4,t5,t6,t7,t8,c1,c2,c3,d1',d2'];exact W.done (Q0.ret (v:= .tuple [.agg Yy,.int .i64 e4]) rfl rfl (.inl ⟨e4,he4,rfl⟩))
         . have d1' :(e2==0)=false:=by simpa using he2
           have d2' :(e2 !=0)=true:=by simpa using he2
           simp only[Qf,Qx,Yy,Ki,twF,HJ,Zo8,Zpu] at hop hse hwr⊢;simp only[wX,↓Qc,simprocAttr,Tryz.ntmps6,s1,s2,s3,s4,s5,s6,s7,s8,z1,z2,y3,t4,t5,t6,t7,t8,hop,hse,hwr,c1,c2,c3,d1',d2'];refine W.opsT (by kernel_rfl) ?_;simp only[wX,↓Qc,simprocAttr,s1,s2,s3,s4,s5,s6,s7,s8,z1,z2,y3,t4,t5,t6,t7,t8,c1,c2,c3,d1',d2'];exact W.done (Q0.ret (v:= .tuple [.agg Yy,.int .i64 e2]) rfl rfl (.inl ⟨e2,he2,rfl⟩))
     . obtain⟨r,H',e3,rfl,rfl⟩:=Qk8 _ _ _ _ _ _ _ _ _ _ _ _ _ _ _ he1 hW;have hwr:∀d,callOp Qg (Qn Tp Qg) 6 0 d 12 [.ptr 1 14 0] _=_:=fun d=>Za rfl rfl rfl e3;have c1:(e1==0)=false:=by simpa using he1
       have c2:(e1 !=0)=true:=by simpa using he1
       simp only[Qf,Qx,Yy,Ki,twF,HJ,Zo8,Zpu] at hop hse hwr⊢;simp only[wX,↓Qc,simprocAttr,Tryz.ntmps6,s1,s2,s3,s4,s5,s6,s7,s8,hop,hse,hwr,c1,c2];refine W.opsT (by kernel_rfl) ?_;simp only[wX,↓Qc,simprocAttr,s1,s2,s3,s4,s5,s6,s7,s8,hop,hse,hwr,c1,c2];exact W.done (Q0.ret (v:= .tuple [.agg Yy,.int .i64 e1]) rfl rfl (.inl ⟨e1,he1,rfl⟩))
   . have cl:=Qs6 hC ha hout.fr hout.own hout.twin S0 hoc0 hcd0 x.p.epoch x.p.count id many e;have hW:=Qdo cl (by simp);obtain⟨r,H',e2,rfl,rfl⟩:=Qx0 _ _ _ _ _ _ _ _ _ _ _ _ _ _ _ he hW;have hse:∀d,callOp Qg (Qn Tp Qg) 6 0 d 11 [.ptr 1 14 0] _=_:=fun d=>Za rfl rfl rfl e2;obtain⟨r,H',e3,rfl,rfl⟩:=Qk8 _ _ _ _ _ _ _ _ _ _ _ _ _ _ _ he hW;have hwr:∀d,callOp Qg (Qn Tp Qg) 6 0 d 12 [.ptr 1 14 0] _=_:=fun d=>Za rfl rfl rfl e3;have c1:(e==0)=false:=by simpa using he
     have c2:(e !=0)=true:=by simpa using he
     simp only[Qf,Qx,Yy,Ki,twF,Zo8,Zpu] at hop hse hwr⊢;simp only[wX,↓Qc,simprocAttr,Tryz.ntmps6,s1,s2,s3,s4,s5,s6,s7,s8,hop,hse,hwr,c1,c2];refine W.opsT (by kernel_rfl) ?_;simp only[wX,↓Qc,simprocAttr,s1,s2,s3,s4,s5,s6,s7,s8,hop,hse,hwr,c1,c2];exact W.done (Q0.ret (v:= .tuple [.agg Yy,.int .i64 e]) rfl rfl (.inl ⟨e,he,rfl⟩))
end
end Go.Proofs.YtjllfbejpjonnaaGreatDoor
end
