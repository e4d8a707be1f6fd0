/- This file holds in one the texts R19, R20, R21, R22; each says at its head what it proves. -/
import Derived.Test.YtmapmgfiamfocaaGreatT25
set_option linter.unusedSimpArgs false
set_option linter.unusedVariables false
namespace Go.Proofs.YtmapmgfiamfocaaGreat
section
set_option maxRecDepth 100000
open Go.AM Go.Mod
attribute [local irreducible] U W
theorem Qm1{p:Nat->Nat->Bool}{o:O}(ho:o.refs p=false)(s:Nat):∀{F:AM.Frame},Jt p F=true->Jt p (Qae F s o)=true
 |[],_=>by simp[Qae,Jt,ho]
 |(k,x)::r,h=>by
  simp only[Jt,Zfr,Zf6] at h;unfold Qae;split
  . simp[Jt,ho,h.2]
  . split
    . simp[Jt,ho,h.1,h.2]
    . simp[Jt,h.1,Qm1 ho s h.2]
theorem Qos{p:Nat->Nat->Bool}{o:O}(ho:o.refs p=false)(s:Nat):∀{H:Qg} (f:Nat),Jj p H=true->Jj p (Qs H f s o)=true
 |[],f,_=>by simp[Qs,Jj]
 |F::H,0,h=>by
  simp only[Jj,Zfr] at h;simp only[Qs,List.modify_zero_cons,Jj,Qm1 ho s h.1,h.2,Zgp]
 |F::H,f+1,h=>by
  simp only[Jj,Zfr] at h;have:=Qos ho s f h.2;simp only[Qs,List.modify_succ_cons,Jj,h.1,Zge] at this⊢;exact this
theorem Q32{H:Qg}(h:WF H){o:O}(ho:∀p,o.refs p=false)(f s:Nat):WF (Qs H f s o):=by unfold WF;rw[Qa];exact Qos (ho _) s f h
theorem Qr4:Qv.news 20 16=some zLn:=rfl
theorem B3{H:Qg}(hw:WF H)(hl:0<H.length)(made:Int){pv lv hv:V}(cs:List V)(l:List (Int×Qe))(s1:pv.scalar=true)(s2:lv.scalar=true)(hh:Ql 7 hv cs l.length)(hc:Zy cs l)(hb:l.length<=1000)(x:Int)(d:Option Nat):
 Zn Qv (Zx Tryz.prog Qv) 20 0 d 21 [.agg (Qo made pv lv hv),.int .i64 x] H=some (.ret (.int .i64 (Kz x (ids l) 0)),H):=by
 obtain⟨r,H',e,rfl,rfl⟩:=Q2x H hw made cs l s1 s2 hh hc hb x;refine Qma (ks:=[6,11,226,230,239,245,259,270,275,279,296]) (x:=some 16) rfl rfl rfl rfl e (fun k hk=>rfl) (fun d hd=>?_);cases hd;refine⟨⟨hl,hl,rfl⟩,fun cs2 _ hcs=>?_⟩;rw[Qr4] at hcs;cases hcs;obtain⟨r,H2,e2,rfl,rfl⟩:=Q2x (Qs H' 0 16 (.cells zLn)) (Q32 hw (fun p=>rfl) 0 16) made cs l s1 s2 hh hc hb x;exact e2
theorem Qwi{H:Qg}(hw:WF H)(hl:0<H.length)(made:Int){pv lv:V}{f s:Nat}(cs:List V)(l:List (Int×Qe))(s1:pv.scalar=true)(s2:lv.scalar=true)(hf:f≠0)(hg:Qd H f s=some (.mgrow cs l.length))(hc:Zy cs l)(hb:l.length<=1000)(x:Int)(d:Option Nat):
 Zn Qv (Zx Tryz.prog Qv) 20 0 d 21 [.agg (Qo made pv lv (.mg f s l.length 7)),.int .i64 x] H=some (.ret (.int .i64 (Kz x (ids l) 0)),H):=by
 obtain⟨r,H',e,rfl,rfl⟩:=at_mg H hw made cs l s1 s2 hg hc hb x;refine Qma (ks:=[6,11,226,230,239,245,259,270,275,279,296]) (x:=some 16) rfl rfl rfl rfl e (fun k hk=>rfl) (fun d hd=>?_);cases hd;refine⟨⟨hl,hl,rfl⟩,fun cs2 _ hcs=>?_⟩;rw[Qr4] at hcs;cases hcs;obtain⟨r,H2,e2,rfl,rfl⟩:=at_mg (Qs H' 0 16 (.cells zLn)) (Q32 hw (fun p=>rfl) 0 16) made cs l s1 s2 (by rw[Q8 hl hf];exact hg) hc hb x;exact e2
theorem Bj(S:MSt)(p:Nat->Nat->Bool):Zv p (Jd S)=false:=by
 unfold Jd
 induction S.keys with
 |nil=>rfl
 |cons k l ih=>simp only[Zfn,Zv,V.refs,ih,Zhq]
theorem Bi(S:MSt)(p:Nat->Nat->Bool):Zv p (Zu S)=false:=by
 unfold Zu
 induction S.keys with
 |nil=>rfl
 |cons k l ih=>simp only[Zfn,Zv,V.refs,ih,Zhq]
def twL(S:MSt)(made:Int)(n:Nat):List V:=[.int .i64 made,.gS 1 12 (Jd S) S.keys.length 1,.mg 1 18 S.keys.length 1,.mg 1 36 n 7]
def twG(S:MSt)(lc cs:List V)(n:Nat):AM.Frame:=[(2,.cells (twL S S.last S.lines.length)),(3,.cells (twL S S.last S.lines.length)),(12,.grow S.keys.length),(18,.mgrow lc S.keys.length),(36,.mgrow cs n)]
theorem B1(pv lv hv:V)(cs:List V)(S:MSt)(h:HsR pv lv hv cs S)(k:Nat)(ok:J1 S k)(hk:S.keys.length<=1000)(hl:S.lines.length<=1000):
 CR Tryz.prog Qv 25 [.agg (Qo S.last pv lv hv)] [[(4,.cells zH),(5,.cells Ze)]] fun v H' =>(S.keys=[]/\S.lines=[]/\v= .agg (Qo S.last .nS .nS .nS)/\H' =[[(4,.cells zH),(5,.cells Ze)]])\/
  S.keys≠[]/\∃cs',Zy cs' S.lines/\v= .agg (twV 1 S S.lines.length)/\H' =[[(4,.cells zH),(5,.cells Ze)],Bt 1 S (twV 1 S S.lines.length) cs' S.lines.length]:=by
 refine(Qvf [(4,.cells zH),(5,.cells Ze)] (fun p=>rfl) pv lv hv cs S h k ok hk hl).mono ?_;rintro r H' (⟨h1,h2,rfl,rfl⟩|⟨h1,cs',h2,rfl,rfl⟩)
 . exact⟨_,rfl,.inl ⟨h1,h2,rfl,rfl⟩⟩
 . exact⟨_,rfl,.inr ⟨h1,cs',h2,rfl,rfl⟩⟩
theorem Qcu{S:MSt}(hl:S.lines.length≠0)(cs' :List V):twV 1 S S.lines.length=twL S S.last S.lines.length/\Bt 1 S (twV 1 S S.lines.length) cs' S.lines.length=twG S (Zu S) cs' S.lines.length:=by
 constructor
 . simp[twV,twL,Qo,hl]
 . simp[Bt,twG,twV,twL,Qo,hl]
theorem Z1{made:Int}{pv lv hv:V}{cs:List V}{S:MSt}(h:HsR pv lv hv cs S)(g:Get)(e:Int):frz g depth (.tuple [.agg (Qo made pv lv hv),Q7 e])=some (.tuple [.agg (Qo made pv lv hv),Q7 e]):=by have f1:=Kn (made:=made) h.p h.l h.h g 9;show(frzL (frz g 11) _).map V.tuple=_;simp only[frzL,f1];rfl
set_option maxHeartbeats 8000000 in
theorem Qw2(pv lv hv:V)(cs:List V)(S:MSt)(h:HsR pv lv hv cs S)(kk:Nat)(ok:J1 S kk)(hkk:kk<=500)(hkn:S.keys.length<=kk)(c:Zc)(dv:V)(hc:Ye c dv)(hk:c.kind=21):
 Fz Tryz.prog Qv 20 [.agg (Qo S.last pv lv hv),.agg (Qf c dv)] fun r=>∃hv' rv,r= .tuple [hv',rv]/\Ke hv' (Q2 S c).1/\Y4 rv (Q2 S c).2:=by
 refine Jx Tryz.func20 rfl ?_;have s1:=Qz h.p;have s2:=Qz h.l;have s3:=Qz h.h;have s4:=Qz hc.data;have p1:=Ql.pure h.p;have p2:=Ql.pure h.l;have p3:=Ql.pure h.h;have p4:=Ql.pure hc.data;have hln:S.lines.length<=500:=by have:=ok.cnt;omega
 have hl0:=ok.last0;have hl1:=ok.last1;have tc:=B1 pv lv hv cs S h kk ok (by omega) (by omega);have lh:=h.h.len Tryz.underlying48;have u:=Tryz.underlying48;simp only[wA,↓Qc,simprocAttr,Tryz.ntmps20,Qo,Qf,s1,s2,s3,s4,p1,p2,p3,p4,V.pure,Zgp,ta,wH,wB];refine W.call tc rfl rfl rfl rfl rfl ?_;have hd:Q2 S c=(S,Zl 0):=by simp[Q2,hk,Qzf]
 obtain⟨kind,a,b,cc,name,as_,text,data⟩:=c;simp only at hk;subst hk;rintro v H' (⟨h1,h2,rfl,rfl⟩|⟨h1,cs',h2,rfl,rfl⟩)
 . simp only[wA,↓Qc,simprocAttr,zH,Ze,Qo,Q7,Qf,Zm,Qj,Qy,Qn,Q3,Qh,Q4,Qi,s1,s2,s3,s4,V.pure,Zgp,ta,wH,wB];refine W.done (Zg.ret rfl (Z1 h _ 0) ⟨_,_,rfl,?_,?_⟩)
   . rw[hd];exact⟨pv,lv,hv,cs,rfl,h⟩
   . rw[hd];exact Zk 0
 . have hsc:(twV 1 S S.lines.length).all V.scalar=true:=by unfold twV Qo;split<;>rfl
   have hlen:(twV 1 S S.lines.length).length=4:=rfl;simp only[wA,↓Qc,simprocAttr,zH,Ze,Qo,Q7,hsc,hlen,Qf,Zm,Qj,Qy,Qn,Q3,Qh,Q4,Qi,s1,s2,s3,s4,V.pure,Zgp,ta,wH,wB];refine W.done (Zg.ret rfl (Z1 h _ 0) ⟨_,_,rfl,?_,?_⟩)
   . rw[hd];exact⟨pv,lv,hv,cs,rfl,h⟩
   . rw[hd];exact Zk 0
set_option maxHeartbeats 8000000 in
theorem Qsi(pv lv hv:V)(cs:List V)(S:MSt)(h:HsR pv lv hv cs S)(kk:Nat)(ok:J1 S kk)(hkk:kk<=500)(hkn:S.keys.length<=kk)(c:Zc)(dv:V)(hc:Ye c dv)(hk:c.kind≠1/\c.kind≠19/\c.kind≠21/\Qak c.kind=true)(hno:Zw S.lines c.a=none):
 Fz Tryz.prog Qv 20 [.agg (Qo S.last pv lv hv),.agg (Qf c dv)] fun r=>∃hv' rv,r= .tuple [hv',rv]/\Ke hv' (Q2 S c).1/\Y4 rv (Q2 S c).2:=by
 refine Jx Tryz.func20 rfl ?_;have s1:=Qz h.p;have s2:=Qz h.l;have s3:=Qz h.h;have s4:=Qz hc.data;have p1:=Ql.pure h.p;have p2:=Ql.pure h.l;have p3:=Ql.pure h.h;have p4:=Ql.pure hc.data;have hln:S.lines.length<=500:=by have:=ok.cnt;omega
 have hl0:=ok.last0;have hl1:=ok.last1;have tc:=B1 pv lv hv cs S h kk ok (by omega) (by omega);have lh:=h.h.len Tryz.underlying48;have u:=Tryz.underlying48;simp only[wA,↓Qc,simprocAttr,Tryz.ntmps20,Qo,Qf,s1,s2,s3,s4,p1,p2,p3,p4,V.pure,Zgp,ta,wH,wB];refine W.call tc rfl rfl rfl rfl rfl ?_;have hd:Q2 S c=(S,Zl 6):=by
  obtain⟨k1,k2,k3,k4⟩:=hk;have k5:c.kind=2\/c.kind=3\/c.kind=4\/c.kind=5\/c.kind=6\/c.kind=7\/c.kind=8\/c.kind=20:=by simp only[Qak,Zgj,decide_eq_true_eq] at k4;omega
  rcases k5 with k|k|k|k|k|k|k|k<;>simp[Q2,k,Qdf,Qan,Yq,Qca,Y3,Qcc,Xx,Bz,hno]
 have hpl:Kz c.a (ids S.lines) 0= -1:=Qju 0 hno;have e1:(c.kind==1)=false:=by simp;exact hk.1
 have e2:(c.kind==19)=false:=by simp;exact hk.2.1
 have e3:(c.kind==21)=false:=by simp;exact hk.2.2.1
 rintro v H' (⟨h1,h2,rfl,rfl⟩|⟨h1,cs',h2,rfl,rfl⟩)
 . have hw:WF [[(4,.cells zH),(5,.cells Ze),(6,.cells (Qo S.last .nS .nS .nS))]]:=rfl;have ht:=fun d=>B3 hw (by simp) S.last cs S.lines s1 s2 h.h h.c (by omega) c.a d;rw[hpl] at ht;simp only[zH,Ze,Qo] at ht;simp only[wA,↓Qc,simprocAttr,zH,Ze,Qo,e1,e2,e3,↓ht,Qf,Zm,Qj,Qy,Qn,Q3,Qh,Q4,Qi,s1,s2,s3,s4,V.pure,Zgp,ta,wH,wB];refine W.pcallT (Yf 6) rfl rfl rfl ?_;rintro _ rfl;simp only[wA,↓Qc,simprocAttr,Q7,zH,Ze,Qo,Qf,Zm,Qj,Qy,Qn,Q3,Qh,Q4,Qi,s1,s2,s3,s4,V.pure,Zgp,ta,wH,wB];refine W.opsT (by kernel_rfl) ?_;simp only[wA,↓Qc,simprocAttr];refine W.done (Zg.ret rfl (Z1 h _ 6) ⟨_,_,rfl,?_,?_⟩)
   . rw[hd];exact⟨pv,lv,hv,cs,rfl,h⟩
   . rw[hd];exact Zk 6
 . have hw:WF [[(4,.cells zH),(5,.cells Ze),(6,.cells (twV 1 S S.lines.length))],Bt 1 S (twV 1 S S.lines.length) cs' S.lines.length]:=by
    unfold WF Bt twV Qo;by_cases q:S.lines.length=0<;>simp[q,Jj,Jt,O.refs,Zv,V.refs,zH,Ze,Bj,Bi,h2.scal.2.2.1,show Nat.ble 2 1=false from rfl]
   have ht:=fun d=>B3 hw (by simp) S.last cs S.lines s1 s2 h.h h.c (by omega) c.a d;rw[hpl] at ht;have hsc:(twV 1 S S.lines.length).all V.scalar=true:=by unfold twV Qo;split<;>rfl
   have hlen:(twV 1 S S.lines.length).length=4:=rfl;generalize twV 1 S S.lines.length=tv at*;generalize Bt 1 S tv cs' S.lines.length=ft at*;simp only[zH,Ze,Qo] at ht;simp only[wA,↓Qc,simprocAttr,zH,Ze,Qo,e1,e2,e3,hsc,hlen,↓ht,Qf,Zm,Qj,Qy,Qn,Q3,Qh,Q4,Qi,s1,s2,s3,s4,V.pure,Zgp,ta,wH,wB];refine W.pcallT (Yf 6) rfl rfl rfl ?_;rintro _ rfl;simp only[wA,↓Qc,simprocAttr,Q7,zH,Ze,Qo,Qf,Zm,Qj,Qy,Qn,Q3,Qh,Q4,Qi,s1,s2,s3,s4,V.pure,Zgp,ta,wH,wB];refine W.opsT (by kernel_rfl) ?_;simp only[wA,↓Qc,simprocAttr];refine W.done (Zg.ret rfl (Z1 h _ 6) ⟨_,_,rfl,?_,?_⟩)
   . rw[hd];exact⟨pv,lv,hv,cs,rfl,h⟩
   . rw[hd];exact Zk 6
theorem Qte{S:MSt}{L:Qe}(hk:L.key<S.keys.length):(Zu S)[L.key]?=some (.bool (S.keyOf L).loaded):=by unfold Zu MSt.keyOf;rw[Zhx,Ze3 hk];rfl
theorem Qz1{S:MSt}{L:Qe}(hk:L.key<S.keys.length):(Jd S)[L.key]?=some (.str (S.keyOf L).pass):=by unfold Jd MSt.keyOf;rw[Zhx,Ze3 hk];rfl
theorem Q7c{xs:List V}{i:Nat}{v:V}(h:i<xs.length):splice xs i [v]=xs.set i v:=by rw[List.set_eq_take_append_cons_drop,if_pos h];simp[splice]
theorem Qvg{S:MSt}{i:Nat}{k:Qpf}(hk:i<S.keys.length):splice (Zu S) i [.bool k.loaded]=Zu {S with keys:=S.keys.set i k}:=by rw[Q7c (by rw[Jz];exact hk)];simp[Zu,List.map_set]
theorem Quj{S:MSt}{L:Qe}{b:Bool}(hk:L.key<S.keys.length)(g:Get):frzL (frz g 9) (splice (Zu S) L.key [.bool b])=some (splice (Zu S) L.key [.bool b]):=by have e:splice (Zu S) L.key [.bool b]=Zu {S with keys:=S.keys.set L.key {S.keyOf L with loaded:=b}}:=Qvg (k:={S.keyOf L with loaded:=b}) hk;rw[e];exact(Y9 _).2 g 8
theorem Q37{S:MSt}{L:Qe}{b:Bool}(hk:L.key<S.keys.length):Jd {S with keys:=S.keys.set L.key {S.keyOf L with loaded:=b}}=Jd S:=by
 unfold Jd;simp only[List.map_set];apply List.ext_getElem?;intro i;by_cases e:L.key=i
 . subst e;rw[List.getElem?_set_self (by simpa using hk)];exact(Qz1 hk).symm
 . rw[List.getElem?_set_ne e]
theorem Qrt{S:MSt}{L:Qe}{b:Bool}{cs' :List V}(hk:L.key<S.keys.length)(h2:Zy cs' S.lines):Ke (.agg (Qo S.last (.iS (Jd S) S.keys.length false) (.iS (splice (Zu S) L.key [.bool b]) S.keys.length false) (.iS cs' S.lines.length false))) {S with keys:=S.keys.set L.key {S.keyOf L with loaded:=b}}:=by
 refine⟨_,_,_,cs',rfl,⟨?_,?_,Ql.mk h2.len,h2⟩⟩
 . rw[Q37 hk];simp only[Zg0];exact Ql.mk (by rw[Qh6];omega)
 . rw[Qvg (k:={S.keyOf L with loaded:=b}) hk];simp only[Zg0];exact Ql.mk (by rw[Jz];simp)
set_option maxHeartbeats 8000000 in
theorem Qyy(pv lv hv:V)(cs:List V)(S:MSt)(h:HsR pv lv hv cs S)(kk:Nat)(ok:J1 S kk)(hkk:kk<=500)(hkn:S.keys.length<=kk)(c:Zc)(dv:V)(hc:Ye c dv)(hk:c.kind=20)(L:Qe)(hL:Zw S.lines c.a=some L):
 Fz Tryz.prog Qv 20 [.agg (Qo S.last pv lv hv),.agg (Qf c dv)] fun r=>∃hv' rv,r= .tuple [hv',rv]/\Ke hv' (Q2 S c).1/\Y4 rv (Q2 S c).2:=by
 refine Jx Tryz.func20 rfl ?_;have s1:=Qz h.p;have s2:=Qz h.l;have s3:=Qz h.h;have s4:=Qz hc.data;have p1:=Ql.pure h.p;have p2:=Ql.pure h.l;have p3:=Ql.pure h.h;have p4:=Ql.pure hc.data;have hln:S.lines.length<=500:=by have:=ok.cnt;omega
 have hl0:=ok.last0;have hl1:=ok.last1;have tc:=B1 pv lv hv cs S h kk ok (by omega) (by omega);have lh:=h.h.len Tryz.underlying48;have u:=Tryz.underlying48;simp only[wA,↓Qc,simprocAttr,Tryz.ntmps20,Qo,Qf,s1,s2,s3,s4,p1,p2,p3,p4,V.pure,Zgp,ta,wH,wB];refine W.call tc rfl rfl rfl rfl rfl ?_;obtain⟨j,hj,hjl,hpl⟩:=Y7 0 hL;rw[Zff] at hpl;have hn0:S.lines.length≠0:=by omega
 have okL:Q5 L:=ok.line hL;have hkey:L.key<S.keys.length:=ok.key _ (Zh hL);have hid1:1<=c.a:=ok.id0 _ (Zh hL);have hid2:c.a<=S.last:=ok.id1 _ (Zh hL);have hlx:=h.c.at_ j hj;rw[hjl] at hlx;obtain⟨nv,ov,oc,ns,he,hX⟩:=hlx;simp only at he hX;have ra:Zf Tryz.prog 81 cs ((j:Int).toNat*7)=some (.agg ((cs.drop (j*7)).take 7)):=by rw[Qj7,if_pos (by rw[h.c.len];have:(j:Int).toNat=j:=rfl;omega)];rfl
 rw[he] at ra;have atj:=h.h.at (k:= .i64) u Qa2 (by decide) (i:=(j:Int)) (by omega) (by omega);have x1:=Qz hX.n;have x2:=Qz hX.o;have x3:=Ql.pure hX.n;have x4:=Ql.pure hX.o;have c0:decide ((j:Int)<0)=false:=Zih (by omega);have wM:(IntKind.i64).wrap (S.last+1)=S.last+1:=by rw[wrap_i64]<;>omega
 obtain⟨kind,a,b,cc,name,as_,text,data⟩:=c;simp only at hk hL hpl hjl hid1 hid2 he ra;subst hk;rintro v H' (⟨h1,h2,_,_⟩|⟨h1,cs',h2,rfl,rfl⟩)
 . exact absurd (by rw[h2];rfl) hn0
 obtain⟨et,ef⟩:=Qcu hn0 cs';rw[ef,et];have hw:WF [[(4,.cells zH),(5,.cells Ze),(6,.cells (twL S S.last S.lines.length))],twG S (Zu S) cs' S.lines.length]:=by unfold WF twG twL;simp[Jj,Jt,O.refs,Zv,V.refs,zH,Ze,Bj,Bi,h2.scal.2.2.1,show Nat.ble 2 1=false from rfl]
 have ht:=fun d=>B3 hw (by simp) S.last cs S.lines s1 s2 h.h h.c (by omega) a d;rw[hpl] at ht;have hl2:=h2.len;have hlc:=Jz S;have hcf:=fun g=>h2.scal.2.2.2 g 7;have hpf:=fun g=>(Bd S.keys).2 g 8;have hlf:=fun g=>(Y9 S.keys).2 g 8;simp only[zH,Ze,Qo,twL,twG] at ht;have hd:Q2 S ⟨20,a,b,cc,name,as_,text,data⟩=(S,Zl (if L.snap then 202 else 0)):=by simp[Q2,Bz,hL]
 cases hsn:L.snap with
 |true=>
  rw[hsn] at hd;simp only[wA,↓Qc,simprocAttr,hsn,zH,Ze,Qo,twL,twG,Qk,c0,wM,atj,↓ra,↓ht,x1,x2,x3,x4,Qf,Qj,Qy,Qn,Q3,Qh,Q4,Qi,s1,s2,s3,s4,V.pure,Zgp,ta,wH,wB];refine W.pcallT (Yf 202) rfl rfl rfl ?_;rintro _ rfl;simp only[wA,↓Qc,simprocAttr,Q7,zH,Ze,Qo,Qf,Qj,Qy,Qn,Q3,Qh,Q4,Qi,s1,s2,s3,s4,V.pure,Zgp,ta,wH,wB];refine W.opsT (by kernel_rfl) ?_;simp only[wA,↓Qc,simprocAttr];refine W.done (Zg.ret rfl (Z1 h _ 202) ⟨_,_,rfl,?_,?_⟩)
  . rw[hd];exact⟨pv,lv,hv,cs,rfl,h⟩
  . rw[hd];exact Zk 202
 |false=>
  rw[hsn] at hd;simp only[wA,↓Qc,simprocAttr,hsn,Q7,zH,Ze,Qo,twL,twG,Qk,c0,wM,atj,↓ra,↓ht,x1,x2,x3,x4,Qf,Qj,Qy,Qn,Q3,Qh,Q4,Qi,s1,s2,s3,s4,V.pure,Zgp,ta,wH,wB];refine W.done (Zg.ret rfl (Z1 h _ 0) ⟨_,_,rfl,?_,?_⟩)
  . rw[hd];exact⟨pv,lv,hv,cs,rfl,h⟩
  . rw[hd];exact Zk 0
set_option maxHeartbeats 8000000 in
theorem Q1b(pv lv hv:V)(cs:List V)(S:MSt)(h:HsR pv lv hv cs S)(kk:Nat)(ok:J1 S kk)(hkk:kk<=500)(hkn:S.keys.length<=kk)(c:Zc)(dv:V)(hc:Ye c dv)(hk:c.kind=8)(L:Qe)(hL:Zw S.lines c.a=some L):
 Fz Tryz.prog Qv 20 [.agg (Qo S.last pv lv hv),.agg (Qf c dv)] fun r=>∃hv' rv,r= .tuple [hv',rv]/\Ke hv' (Q2 S c).1/\Y4 rv (Q2 S c).2:=by
 refine Jx Tryz.func20 rfl ?_;have s1:=Qz h.p;have s2:=Qz h.l;have s3:=Qz h.h;have s4:=Qz hc.data;have p1:=Ql.pure h.p;have p2:=Ql.pure h.l;have p3:=Ql.pure h.h;have p4:=Ql.pure hc.data;have hln:S.lines.length<=500:=by have:=ok.cnt;omega
 have hl0:=ok.last0;have hl1:=ok.last1;have tc:=B1 pv lv hv cs S h kk ok (by omega) (by omega);have lh:=h.h.len Tryz.underlying48;have u:=Tryz.underlying48;simp only[wA,↓Qc,simprocAttr,Tryz.ntmps20,Qo,Qf,s1,s2,s3,s4,p1,p2,p3,p4,V.pure,Zgp,ta,wH,wB];refine W.call tc rfl rfl rfl rfl rfl ?_;obtain⟨j,hj,hjl,hpl⟩:=Y7 0 hL;rw[Zff] at hpl;have hn0:S.lines.length≠0:=by omega
 have okL:Q5 L:=ok.line hL;have hkey:L.key<S.keys.length:=ok.key _ (Zh hL);have hid1:1<=c.a:=ok.id0 _ (Zh hL);have hid2:c.a<=S.last:=ok.id1 _ (Zh hL);have hlx:=h.c.at_ j hj;rw[hjl] at hlx;obtain⟨nv,ov,oc,ns,he,hX⟩:=hlx;simp only at he hX;have ra:Zf Tryz.prog 81 cs ((j:Int).toNat*7)=some (.agg ((cs.drop (j*7)).take 7)):=by rw[Qj7,if_pos (by rw[h.c.len];have:(j:Int).toNat=j:=rfl;omega)];rfl
 rw[he] at ra;have atj:=h.h.at (k:= .i64) u Qa2 (by decide) (i:=(j:Int)) (by omega) (by omega);have x1:=Qz hX.n;have x2:=Qz hX.o;have x3:=Ql.pure hX.n;have x4:=Ql.pure hX.o;have c0:decide ((j:Int)<0)=false:=Zih (by omega);have wM:(IntKind.i64).wrap (S.last+1)=S.last+1:=by rw[wrap_i64]<;>omega
 obtain⟨kind,a,b,cc,name,as_,text,data⟩:=c;simp only at hk hL hpl hjl hid1 hid2 he ra;subst hk;rintro v H' (⟨h1,h2,_,_⟩|⟨h1,cs',h2,rfl,rfl⟩)
 . exact absurd (by rw[h2];rfl) hn0
 obtain⟨et,ef⟩:=Qcu hn0 cs';rw[ef,et];have hw:WF [[(4,.cells zH),(5,.cells Ze),(6,.cells (twL S S.last S.lines.length))],twG S (Zu S) cs' S.lines.length]:=by unfold WF twG twL;simp[Jj,Jt,O.refs,Zv,V.refs,zH,Ze,Bj,Bi,h2.scal.2.2.1,show Nat.ble 2 1=false from rfl]
 have ht:=fun d=>B3 hw (by simp) S.last cs S.lines s1 s2 h.h h.c (by omega) a d;rw[hpl] at ht;have hl2:=h2.len;have hlc:=Jz S;have hcf:=fun g=>h2.scal.2.2.2 g 7;have hpf:=fun g=>(Bd S.keys).2 g 8;have hlf:=fun g=>(Y9 S.keys).2 g 8;simp only[zH,Ze,Qo,twL,twG] at ht;have atl:=h.l.at (k:= .i64) Tryz.underlying47 sz4 (by decide) (i:=(L.key:Int)) (by omega) (by omega);have la:=Qte hkey;have la1:(Zu S)[(L.key:Int).toNat]?=some (.bool (S.keyOf L).loaded):=la;have la2:(Zu S)[(L.key:Int).toNat*1]?=some (.bool (S.keyOf L).loaded):=by rw[Zgd];exact la
 have ixl:Zs Tryz.prog 47 (.mg 1 18 S.keys.length 1) (.int .i64 (L.key:Int))=some (.mp 1 18 L.key S.keys.length):=by simp only[Zs,Tryz.underlying47,sz4];rw[if_pos ⟨by omega,by omega,by first|rfl|trivial⟩];simp
 have ck:L.key+1<=S.keys.length:=by omega
 cases hlo:(S.keyOf L).loaded with
 |false=>
  have hd:Q2 S ⟨8,a,b,cc,name,as_,text,data⟩=(S,Zl 200):=by simp[Q2,Xx,hL,hlo]
  rw[hlo] at la la1 la2;simp only[wA,↓Qc,simprocAttr,atl,la,la1,la2,zH,Ze,Qo,twL,twG,Qk,c0,wM,atj,↓ra,↓ht,x1,x2,x3,x4,Qf,Qj,Qy,Qn,Q3,Qh,Q4,Qi,s1,s2,s3,s4,V.pure,Zgp,ta,wH,wB];refine W.pcallT (Yf 200) rfl rfl rfl ?_;rintro _ rfl;simp only[wA,↓Qc,simprocAttr,Q7,zH,Ze,Qo,Qf,Qj,Qy,Qn,Q3,Qh,Q4,Qi,s1,s2,s3,s4,V.pure,Zgp,ta,wH,wB];refine W.opsT (by kernel_rfl) ?_;simp only[wA,↓Qc,simprocAttr];refine W.done (Zg.ret rfl (Z1 h _ 200) ⟨_,_,rfl,?_,?_⟩)
  . rw[hd];exact⟨pv,lv,hv,cs,rfl,h⟩
  . rw[hd];exact Zk 200
 |true=>
  have hd:Q2 S ⟨8,a,b,cc,name,as_,text,data⟩=({S with keys:=S.keys.set L.key {S.keyOf L with loaded:=false}},Zl 0):=by simp[Q2,Xx,hL,hlo]
  rw[hlo] at la la1 la2;simp only[wA,↓Qc,simprocAttr,Q7,atl,la,la1,la2,ixl,ck,hlc,zH,Ze,Qo,twL,twG,Qk,c0,wM,atj,↓ra,↓ht,x1,x2,x3,x4,Qf,Qj,Qy,Qn,Q3,Qh,Q4,Qi,s1,s2,s3,s4,V.pure,Zgp,ta,wH,wB];refine W.done (Zg.ret rfl (Qbv (lc:=splice (Zu S) L.key [.bool false]) (hpf _) (Quj hkey _) (hcf _) (by simp only[splice,Zfv,Zf9,Zga,Zgz,Zg2,hlc];omega) hl2 rfl rfl rfl) ⟨_,_,rfl,?_,?_⟩)
  . rw[hd];exact Qrt hkey h2
  . rw[hd];exact Zk 0
set_option maxHeartbeats 8000000 in
theorem Q1t(pv lv hv:V)(cs:List V)(S:MSt)(h:HsR pv lv hv cs S)(kk:Nat)(ok:J1 S kk)(hkk:kk<=500)(hkn:S.keys.length<=kk)(c:Zc)(dv:V)(hc:Ye c dv)(hk:c.kind=7)(L:Qe)(hL:Zw S.lines c.a=some L):
 Fz Tryz.prog Qv 20 [.agg (Qo S.last pv lv hv),.agg (Qf c dv)] fun r=>∃hv' rv,r= .tuple [hv',rv]/\Ke hv' (Q2 S c).1/\Y4 rv (Q2 S c).2:=by
 refine Jx Tryz.func20 rfl ?_;have s1:=Qz h.p;have s2:=Qz h.l;have s3:=Qz h.h;have s4:=Qz hc.data;have p1:=Ql.pure h.p;have p2:=Ql.pure h.l;have p3:=Ql.pure h.h;have p4:=Ql.pure hc.data;have hln:S.lines.length<=500:=by have:=ok.cnt;omega
 have hl0:=ok.last0;have hl1:=ok.last1;have tc:=B1 pv lv hv cs S h kk ok (by omega) (by omega);have lh:=h.h.len Tryz.underlying48;have u:=Tryz.underlying48;simp only[wA,↓Qc,simprocAttr,Tryz.ntmps20,Qo,Qf,s1,s2,s3,s4,p1,p2,p3,p4,V.pure,Zgp,ta,wH,wB];refine W.call tc rfl rfl rfl rfl rfl ?_;obtain⟨j,hj,hjl,hpl⟩:=Y7 0 hL;rw[Zff] at hpl;have hn0:S.lines.length≠0:=by omega
 have okL:Q5 L:=ok.line hL;have hkey:L.key<S.keys.length:=ok.key _ (Zh hL);have hid1:1<=c.a:=ok.id0 _ (Zh hL);have hid2:c.a<=S.last:=ok.id1 _ (Zh hL);have hlx:=h.c.at_ j hj;rw[hjl] at hlx;obtain⟨nv,ov,oc,ns,he,hX⟩:=hlx;simp only at he hX;have ra:Zf Tryz.prog 81 cs ((j:Int).toNat*7)=some (.agg ((cs.drop (j*7)).take 7)):=by rw[Qj7,if_pos (by rw[h.c.len];have:(j:Int).toNat=j:=rfl;omega)];rfl
 rw[he] at ra;have atj:=h.h.at (k:= .i64) u Qa2 (by decide) (i:=(j:Int)) (by omega) (by omega);have x1:=Qz hX.n;have x2:=Qz hX.o;have x3:=Ql.pure hX.n;have x4:=Ql.pure hX.o;have c0:decide ((j:Int)<0)=false:=Zih (by omega);have wM:(IntKind.i64).wrap (S.last+1)=S.last+1:=by rw[wrap_i64]<;>omega
 obtain⟨kind,a,b,cc,name,as_,text,data⟩:=c;simp only at hk hL hpl hjl hid1 hid2 he ra;subst hk;rintro v H' (⟨h1,h2,_,_⟩|⟨h1,cs',h2,rfl,rfl⟩)
 . exact absurd (by rw[h2];rfl) hn0
 obtain⟨et,ef⟩:=Qcu hn0 cs';rw[ef,et];have hw:WF [[(4,.cells zH),(5,.cells Ze),(6,.cells (twL S S.last S.lines.length))],twG S (Zu S) cs' S.lines.length]:=by unfold WF twG twL;simp[Jj,Jt,O.refs,Zv,V.refs,zH,Ze,Bj,Bi,h2.scal.2.2.1,show Nat.ble 2 1=false from rfl]
 have ht:=fun d=>B3 hw (by simp) S.last cs S.lines s1 s2 h.h h.c (by omega) a d;rw[hpl] at ht;have hl2:=h2.len;have hlc:=Jz S;have hcf:=fun g=>h2.scal.2.2.2 g 7;have hpf:=fun g=>(Bd S.keys).2 g 8;have hlf:=fun g=>(Y9 S.keys).2 g 8;simp only[zH,Ze,Qo,twL,twG] at ht;have atl:=h.l.at (k:= .i64) Tryz.underlying47 sz4 (by decide) (i:=(L.key:Int)) (by omega) (by omega);have la:=Qte hkey;have la1:(Zu S)[(L.key:Int).toNat]?=some (.bool (S.keyOf L).loaded):=la;have la2:(Zu S)[(L.key:Int).toNat*1]?=some (.bool (S.keyOf L).loaded):=by rw[Zgd];exact la
 have ixl:Zs Tryz.prog 47 (.mg 1 18 S.keys.length 1) (.int .i64 (L.key:Int))=some (.mp 1 18 L.key S.keys.length):=by simp only[Zs,Tryz.underlying47,sz4];rw[if_pos ⟨by omega,by omega,by first|rfl|trivial⟩];simp
 have ck:L.key+1<=S.keys.length:=by omega
 have atp:=h.p.at (k:= .i64) Tryz.underlying25 sz9 (by decide) (i:=(L.key:Int)) (by omega) (by omega);have pa:=Qz1 hkey;have pa1:(Jd S)[(L.key:Int).toNat]?=some (.str (S.keyOf L).pass):=pa;have pa2:(Jd S)[(L.key:Int).toNat*1]?=some (.str (S.keyOf L).pass):=by rw[Zgd];exact pa
 by_cases hte:64<text.length
 . have d1:decide ((text.length:Int)>64)=true:=Zig (by omega);have hd:Q2 S ⟨7,a,b,cc,name,as_,text,data⟩=(S,Zl 3):=by simp[Q2,Qcc,hL,hte]
   simp only[wA,↓Qc,simprocAttr,d1,zH,Ze,Qo,twL,twG,Qk,c0,wM,atj,↓ra,↓ht,x1,x2,x3,x4,Qf,Qj,Qy,Qn,Q3,Qh,Q4,Qi,s1,s2,s3,s4,V.pure,Zgp,ta,wH,wB];refine W.pcallT (Yf 3) rfl rfl rfl ?_;rintro _ rfl;simp only[wA,↓Qc,simprocAttr,Q7,zH,Ze,Qo,Qf,Qj,Qy,Qn,Q3,Qh,Q4,Qi,s1,s2,s3,s4,V.pure,Zgp,ta,wH,wB];refine W.opsT (by kernel_rfl) ?_;simp only[wA,↓Qc,simprocAttr];refine W.done (Zg.ret rfl (Z1 h _ 3) ⟨_,_,rfl,?_,?_⟩)
   . rw[hd];exact⟨pv,lv,hv,cs,rfl,h⟩
   . rw[hd];exact Zk 3
 . have d1:decide ((text.length:Int)>64)=false:=Zih (by omega);by_cases hpw:text=(S.keyOf L).pass
   . have hd:Q2 S ⟨7,a,b,cc,name,as_,text,data⟩=({S with keys:=S.keys.set L.key {S.keyOf L with loaded:=true}},Zl 0):=by simp[Q2,Qcc,hL,hte,hpw.symm]
     rw[<-hpw] at pa pa1 pa2;simp only[wA,↓Qc,simprocAttr,d1,atp,pa,pa1,pa2,beq_self_eq_true,Zhf,zH,Ze,Qo,twL,twG,Qk,c0,wM,atj,↓ra,↓ht,x1,x2,x3,x4,Qf,Qj,Qy,Qn,Q3,Qh,Q4,Qi,s1,s2,s3,s4,V.pure,Zgp,ta,wH,wB];refine W.opsT (by kernel_rfl) ?_;simp only[wA,↓Qc,simprocAttr,Q7,ixl,ck,hlc,zH,Ze,Qo,twL,twG,Qk,c0,wM,atj,↓ra,↓ht,x1,x2,x3,x4,Qf,Qj,Qy,Qn,Q3,Qh,Q4,Qi,s1,s2,s3,s4,V.pure,Zgp,ta,wH,wB];refine W.done (Zg.ret rfl (Qbv (lc:=splice (Zu S) L.key [.bool true]) (hpf _) (Quj hkey _) (hcf _) (by simp only[splice,Zfv,Zf9,Zga,Zgz,Zg2,hlc];omega) hl2 rfl rfl rfl) ⟨_,_,rfl,?_,?_⟩)
     . rw[hd];exact Qrt hkey h2
     . rw[hd];exact Zk 0
   . have hd:Q2 S ⟨7,a,b,cc,name,as_,text,data⟩=(S,Zl 201):=by simp[Q2,Qcc,hL,hte,hpw]
     have e1:(text==(S.keyOf L).pass)=false:=by simpa using hpw
     simp only[wA,↓Qc,simprocAttr,d1,atp,pa,pa1,pa2,e1,Zgo,zH,Ze,Qo,twL,twG,Qk,c0,wM,atj,↓ra,↓ht,x1,x2,x3,x4,Qf,Qj,Qy,Qn,Q3,Qh,Q4,Qi,s1,s2,s3,s4,V.pure,Zgp,ta,wH,wB];refine W.opsT (by kernel_rfl) ?_;simp only[wA,↓Qc,simprocAttr,e1,zH,Ze,Qo,twL,twG,Qk,c0,wM,atj,↓ra,↓ht,x1,x2,x3,x4,Qf,Qj,Qy,Qn,Q3,Qh,Q4,Qi,s1,s2,s3,s4,V.pure,Zgp,ta,wH,wB];refine W.pcallT (Yf 201) rfl rfl rfl ?_;rintro _ rfl;simp only[wA,↓Qc,simprocAttr,Q7,zH,Ze,Qo,Qf,Qj,Qy,Qn,Q3,Qh,Q4,Qi,s1,s2,s3,s4,V.pure,Zgp,ta,wH,wB];refine W.opsT (by kernel_rfl) ?_;simp only[wA,↓Qc,simprocAttr];refine W.done (Zg.ret rfl (Z1 h _ 201) ⟨_,_,rfl,?_,?_⟩)
     . rw[hd];exact⟨pv,lv,hv,cs,rfl,h⟩
     . rw[hd];exact Zk 201
theorem Q5k{l m:List (Int×Qe)}{a:Int}{L' :Qe}(h:a∈Mod.ids l):putL (l++m) a L' =putL l a L' ++m:=by
 induction l with
 |nil=>cases h
 |cons p l ih=>
  simp only[Zgh,putL];by_cases e:a=p.1
  . simp only[if_pos e,Zgh]
  . simp only[if_neg e,Zgh];rw[ih];simp only[Mod.ids,Zfn,Zfi] at h;rcases h with h|h
    . exact absurd h e
    . exact h
theorem Qwh{c:List V}{a:Int}{L:Qe}(h:LnC c (a,L)):(∀b:Int,LnC (c.set 3 (.int .i64 b)) (a,{L with prev:=b}))/\(∀b:Int,LnC (c.set 2 (.int .i64 b)) (a,{L with owner:=b})):=by obtain⟨nv,ov,oc,ns,rfl,h1⟩:=h;exact⟨fun b=>⟨nv,ov,oc,ns,rfl,⟨h1.n,h1.o,h1.c,h1.p,h1.r⟩⟩,fun b=>⟨nv,ov,oc,ns,rfl,⟨h1.n,h1.o,h1.c,h1.p,h1.r⟩⟩⟩
theorem ia_L{S:MSt}{n j:Nat}(h:j<n):Zs Tryz.prog 48 (.mg 1 36 n 7) (.int .i64 (j:Int))=some (.mp 1 36 (j*7) n):=by simp only[Zs,Tryz.underlying48,Qa2];rw[if_pos ⟨by omega,by omega,by first|rfl|trivial⟩];simp
theorem app_L{g:Get}{n d:Nat}{cs c:List V}{p:Int×Qe}(hn:n<=1000)(hc:LnC c p)(hg:g 1 36=some (.mgrow cs n))(hl:cs.length=n*7):
 Yi Tryz.prog (Qv.mt 20) 0 g (some d) 48 48 (.mg 1 36 n 7) (.iS c 1 true)=some (.val (.mg 1 36 (n+1) 7) (some (1,36,.mgrow (cs++c) (n+1)))):=
 Qjt (m:=1) Tryz.underlying48 Qa2 Qbi Qkv rfl Tryz.underlying48 (by simp only[Z3,hc.len,if_true]) (by decide) (Jb (by omega) (by omega)) hc.scal.1 hc.len hg hl
theorem Qbx{S:MSt}{made:Int}{cs' :List V}{l:List (Int×Qe)}(hc:Zy cs' l):Ke (.agg (Qo made (.iS (Jd S) S.keys.length false) (.iS (Zu S) S.keys.length false) (.iS cs' l.length false))) ⟨made,S.keys,l⟩:=
 ⟨_,_,_,cs',rfl,⟨Ql.mk (by rw[Qh6];omega),Ql.mk (by rw[Jz];omega),Ql.mk hc.len,hc⟩⟩
set_option maxHeartbeats 8000000 in
theorem Q1c(pv lv hv:V)(cs:List V)(S:MSt)(h:HsR pv lv hv cs S)(kk:Nat)(ok:J1 S kk)(hkk:kk<=500)(hkn:S.keys.length<=kk)(c:Zc)(dv:V)(hc:Ye c dv)(hk:c.kind=3)(L:Qe)(hL:Zw S.lines c.a=some L):
 Fz Tryz.prog Qv 20 [.agg (Qo S.last pv lv hv),.agg (Qf c dv)] fun r=>∃hv' rv,r= .tuple [hv',rv]/\Ke hv' (Q2 S c).1/\Y4 rv (Q2 S c).2:=by
 refine Jx Tryz.func20 rfl ?_;have s1:=Qz h.p;have s2:=Qz h.l;have s3:=Qz h.h;have s4:=Qz hc.data;have p1:=Ql.pure h.p;have p2:=Ql.pure h.l;have p3:=Ql.pure h.h;have p4:=Ql.pure hc.data;have hln:S.lines.length<=500:=by have:=ok.cnt;omega
 have hl0:=ok.last0;have hl1:=ok.last1;have tc:=B1 pv lv hv cs S h kk ok (by omega) (by omega);have lh:=h.h.len Tryz.underlying48;have u:=Tryz.underlying48;simp only[wA,↓Qc,simprocAttr,Tryz.ntmps20,Qo,Qf,s1,s2,s3,s4,p1,p2,p3,p4,V.pure,Zgp,ta,wH,wB];refine W.call tc rfl rfl rfl rfl rfl ?_;obtain⟨j,hj,hjl,hpl⟩:=Y7 0 hL;rw[Zff] at hpl;have hn0:S.lines.length≠0:=by omega
 have okL:Q5 L:=ok.line hL;have hkey:L.key<S.keys.length:=ok.key _ (Zh hL);have hid1:1<=c.a:=ok.id0 _ (Zh hL);have hid2:c.a<=S.last:=ok.id1 _ (Zh hL);have hlx:=h.c.at_ j hj;rw[hjl] at hlx;obtain⟨nv,ov,oc,ns,he,hX⟩:=hlx;simp only at he hX;have ra:Zf Tryz.prog 81 cs ((j:Int).toNat*7)=some (.agg ((cs.drop (j*7)).take 7)):=by rw[Qj7,if_pos (by rw[h.c.len];have:(j:Int).toNat=j:=rfl;omega)];rfl
 rw[he] at ra;have atj:=h.h.at (k:= .i64) u Qa2 (by decide) (i:=(j:Int)) (by omega) (by omega);have x1:=Qz hX.n;have x2:=Qz hX.o;have x3:=Ql.pure hX.n;have x4:=Ql.pure hX.o;have c0:decide ((j:Int)<0)=false:=Zih (by omega);have wM:(IntKind.i64).wrap (S.last+1)=S.last+1:=by rw[wrap_i64]<;>omega
 obtain⟨kind,a,b,cc,name,as_,text,data⟩:=c;simp only at hk hL hpl hjl hid1 hid2 he ra;subst hk;rintro v H' (⟨h1,h2,_,_⟩|⟨h1,cs',h2,rfl,rfl⟩)
 . exact absurd (by rw[h2];rfl) hn0
 obtain⟨et,ef⟩:=Qcu hn0 cs';rw[ef,et];have hw:WF [[(4,.cells zH),(5,.cells Ze),(6,.cells (twL S S.last S.lines.length))],twG S (Zu S) cs' S.lines.length]:=by unfold WF twG twL;simp[Jj,Jt,O.refs,Zv,V.refs,zH,Ze,Bj,Bi,h2.scal.2.2.1,show Nat.ble 2 1=false from rfl]
 have ht:=fun d=>B3 hw (by simp) S.last cs S.lines s1 s2 h.h h.c (by omega) a d;rw[hpl] at ht;have hl2:=h2.len;have hlc:=Jz S;have hcf:=fun g=>h2.scal.2.2.2 g 7;have hpf:=fun g=>(Bd S.keys).2 g 8;have hlf:=fun g=>(Y9 S.keys).2 g 8;simp only[zH,Ze,Qo,twL,twG] at ht;cases hsn:L.snap with
 |false=>
  have hd:Q2 S ⟨3,a,b,cc,name,as_,text,data⟩=(S,Zl 2):=by simp[Q2,Qan,hL,hsn]
  simp only[wA,↓Qc,simprocAttr,hsn,zH,Ze,Qo,twL,twG,Qk,c0,wM,atj,↓ra,↓ht,x1,x2,x3,x4,Qf,Zm,Qj,Qy,Qn,Q3,Qh,Q4,Qi,s1,s2,s3,s4,V.pure,Zgp,ta,wH,wB];refine W.pcallT (Yf 2) rfl rfl rfl ?_;rintro _ rfl;simp only[wA,↓Qc,simprocAttr,Q7,zH,Ze,Qo,Qf,Zm,Qj,Qy,Qn,Q3,Qh,Q4,Qi,s1,s2,s3,s4,V.pure,Zgp,ta,wH,wB];refine W.opsT (by kernel_rfl) ?_;simp only[wA,↓Qc,simprocAttr];refine W.done (Zg.ret rfl (Z1 h _ 2) ⟨_,_,rfl,?_,?_⟩)
  . rw[hd];exact⟨pv,lv,hv,cs,rfl,h⟩
  . rw[hd];exact Zk 2
 |true=>
  have hd:Q2 S ⟨3,a,b,cc,name,as_,text,data⟩=(⟨S.last+1,S.keys,S.lines++[(S.last+1,{L with snap:=false,prev:=a,owner:=S.last+1})]⟩,{Zl 0 with id:=S.last+1}):=by simp[Q2,Qan,hL,hsn]
  have tf:=Qem a (L.key:Int) nv ov oc ns L hX okL;rw[hsn] at tf;simp only[wA,↓Qc,simprocAttr,hsn,zH,Ze,Qo,twL,twG,Qk,c0,wM,atj,↓ra,↓ht,x1,x2,x3,x4,Qf,Zm,Qj,Qy,Qn,Q3,Qh,Q4,Qi,s1,s2,s3,s4,V.pure,Zgp,ta,wH,wB];refine W.pcall tf rfl rfl (Qt (Qbb hX.n hX.o) rfl) ?_;rintro _ ⟨nv',ov',oc',rfl,hY⟩;have y1:=Qz hY.n;have y2:=Qz hY.o;have y3:=Ql.pure hY.n;have y4:=Ql.pure hY.o;have hlc2:LnC [.int .i64 (S.last+1),.bool false,.int .i64 (S.last+1),.int .i64 a,.int .i64 (L.key:Int),nv',ov'] (S.last+1,{L with snap:=false,prev:=a,owner:=S.last+1}):=⟨nv',ov',oc',ns,rfl,⟨hY.n,hY.o,hY.c,hY.p,hY.r⟩⟩;have apg:=fun g hg=>app_L (g:=g) (n:=S.lines.length) (d:=131) (cs:=cs') (by omega) hlc2 hg hl2;have m130:Qv.mt 20 130=false:=rfl;simp only[wA,↓Qc,simprocAttr,y1,y2,y3,y4,u,m130,Qu,apg,zH,Ze,Qo,twL,twG,Qk,c0,wM,atj,↓ra,↓ht,x1,x2,x3,x4,Qf,Zm,Qj,Qy,Qn,Q3,Qh,Q4,Qi,s1,s2,s3,s4,V.pure,Zgp,ta,wH,wB];refine W.opsT (by kernel_rfl) ?_;simp only[wA,↓Qc,simprocAttr];have hcc:=Zy.add hlc2 h2;refine W.done (Zg.ret rfl (Qbv (cs:=cs' ++[.int .i64 (S.last+1),.bool false,.int .i64 (S.last+1),.int .i64 a,.int .i64 (L.key:Int),nv',ov']) (n:=S.lines.length+1) (hpf _) (hlf _) (hcc.scal.2.2.2 _ 7) (by simp[Zu]) (by rw[hcc.len];simp) rfl rfl rfl) ⟨_,_,rfl,?_,?_⟩)
  . rw[hd];have:=Qbx (S:=S) (made:=S.last+1) hcc;simp only[Zfv,Zgz,Zg2] at this;exact this
  . rw[hd];exact⟨.nS,.nS,.nS,rfl,Qx.nil,Ql.nil,Y0.nil⟩
set_option maxHeartbeats 8000000 in
theorem Q0f(pv lv hv:V)(cs:List V)(S:MSt)(h:HsR pv lv hv cs S)(kk:Nat)(ok:J1 S kk)(hkk:kk<=500)(hkn:S.keys.length<=kk)(c:Zc)(dv:V)(hc:Ye c dv)(hk:c.kind=2)(L:Qe)(hL:Zw S.lines c.a=some L):
 Fz Tryz.prog Qv 20 [.agg (Qo S.last pv lv hv),.agg (Qf c dv)] fun r=>∃hv' rv,r= .tuple [hv',rv]/\Ke hv' (Q2 S c).1/\Y4 rv (Q2 S c).2:=by
 refine Jx Tryz.func20 rfl ?_;have s1:=Qz h.p;have s2:=Qz h.l;have s3:=Qz h.h;have s4:=Qz hc.data;have p1:=Ql.pure h.p;have p2:=Ql.pure h.l;have p3:=Ql.pure h.h;have p4:=Ql.pure hc.data;have hln:S.lines.length<=500:=by have:=ok.cnt;omega
 have hl0:=ok.last0;have hl1:=ok.last1;have tc:=B1 pv lv hv cs S h kk ok (by omega) (by omega);have lh:=h.h.len Tryz.underlying48;have u:=Tryz.underlying48;simp only[wA,↓Qc,simprocAttr,Tryz.ntmps20,Qo,Qf,s1,s2,s3,s4,p1,p2,p3,p4,V.pure,Zgp,ta,wH,wB];refine W.call tc rfl rfl rfl rfl rfl ?_;obtain⟨j,hj,hjl,hpl⟩:=Y7 0 hL;rw[Zff] at hpl;have hn0:S.lines.length≠0:=by omega
 have okL:Q5 L:=ok.line hL;have hkey:L.key<S.keys.length:=ok.key _ (Zh hL);have hid1:1<=c.a:=ok.id0 _ (Zh hL);have hid2:c.a<=S.last:=ok.id1 _ (Zh hL);have hlx:=h.c.at_ j hj;rw[hjl] at hlx;obtain⟨nv,ov,oc,ns,he,hX⟩:=hlx;simp only at he hX;have ra:Zf Tryz.prog 81 cs ((j:Int).toNat*7)=some (.agg ((cs.drop (j*7)).take 7)):=by rw[Qj7,if_pos (by rw[h.c.len];have:(j:Int).toNat=j:=rfl;omega)];rfl
 rw[he] at ra;have atj:=h.h.at (k:= .i64) u Qa2 (by decide) (i:=(j:Int)) (by omega) (by omega);have x1:=Qz hX.n;have x2:=Qz hX.o;have x3:=Ql.pure hX.n;have x4:=Ql.pure hX.o;have c0:decide ((j:Int)<0)=false:=Zih (by omega);have wM:(IntKind.i64).wrap (S.last+1)=S.last+1:=by rw[wrap_i64]<;>omega
 obtain⟨kind,a,b,cc,name,as_,text,data⟩:=c;simp only at hk hL hpl hjl hid1 hid2 he ra;subst hk;rintro v H' (⟨h1,h2,_,_⟩|⟨h1,cs',h2,rfl,rfl⟩)
 . exact absurd (by rw[h2];rfl) hn0
 obtain⟨et,ef⟩:=Qcu hn0 cs';rw[ef,et];have hw:WF [[(4,.cells zH),(5,.cells Ze),(6,.cells (twL S S.last S.lines.length))],twG S (Zu S) cs' S.lines.length]:=by unfold WF twG twL;simp[Jj,Jt,O.refs,Zv,V.refs,zH,Ze,Bj,Bi,h2.scal.2.2.1,show Nat.ble 2 1=false from rfl]
 have ht:=fun d=>B3 hw (by simp) S.last cs S.lines s1 s2 h.h h.c (by omega) a d;rw[hpl] at ht;have hl2:=h2.len;have hlc:=Jz S;have hcf:=fun g=>h2.scal.2.2.2 g 7;have hpf:=fun g=>(Bd S.keys).2 g 8;have hlf:=fun g=>(Y9 S.keys).2 g 8;simp only[zH,Ze,Qo,twL,twG] at ht;cases hsn:L.snap with
 |true=>
  have hd:Q2 S ⟨2,a,b,cc,name,as_,text,data⟩=(S,Zl 202):=by simp[Q2,Qdf,hL,hsn]
  simp only[wA,↓Qc,simprocAttr,hsn,zH,Ze,Qo,twL,twG,Qk,c0,wM,atj,↓ra,↓ht,x1,x2,x3,x4,Qf,Zm,Qj,Qy,Qn,Q3,Qh,Q4,Qi,s1,s2,s3,s4,V.pure,Zgp,ta,wH,wB];refine W.pcallT (Yf 202) rfl rfl rfl ?_;rintro _ rfl;simp only[wA,↓Qc,simprocAttr,Q7,zH,Ze,Qo,Qf,Zm,Qj,Qy,Qn,Q3,Qh,Q4,Qi,s1,s2,s3,s4,V.pure,Zgp,ta,wH,wB];refine W.opsT (by kernel_rfl) ?_;simp only[wA,↓Qc,simprocAttr];refine W.done (Zg.ret rfl (Z1 h _ 202) ⟨_,_,rfl,?_,?_⟩)
  . rw[hd];exact⟨pv,lv,hv,cs,rfl,h⟩
  . rw[hd];exact Zk 202
 |false=>
  have hmem:a∈Mod.ids S.lines:=Zfm.2 ⟨_,Zh hL,rfl⟩;have hd:Q2 S ⟨2,a,b,cc,name,as_,text,data⟩=(⟨S.last+1,S.keys,S.lines.set j (a,{L with prev:=S.last+1})++[(S.last+1,{L with snap:=true})]⟩,{Zl 0 with id:=S.last+1}):=by
   have e:putL (S.lines++[(S.last+1,{L with snap:=true})]) a {L with prev:=S.last+1}=S.lines.set j (a,{L with prev:=S.last+1})++[(S.last+1,{L with snap:=true})]:=by rw[Q5k hmem,Qea ok.uniq hj (by rw[hjl])]
   simp only[hsn] at e;simp[Q2,Qdf,hL,hsn,e]
  have tf:=Qem a (L.key:Int) nv ov oc ns L hX okL;rw[hsn] at tf;simp only[wA,↓Qc,simprocAttr,hsn,zH,Ze,Qo,twL,twG,Qk,c0,wM,atj,↓ra,↓ht,x1,x2,x3,x4,Qf,Zm,Qj,Qy,Qn,Q3,Qh,Q4,Qi,s1,s2,s3,s4,V.pure,Zgp,ta,wH,wB];refine W.pcall tf rfl rfl (Qt (Qbb hX.n hX.o) rfl) ?_;rintro _ ⟨nv',ov',oc',rfl,hY⟩;have y1:=Qz hY.n;have y2:=Qz hY.o;have y3:=Ql.pure hY.n;have y4:=Ql.pure hY.o;have hlc2:LnC [.int .i64 (S.last+1),.bool true,.int .i64 L.owner,.int .i64 L.prev,.int .i64 (L.key:Int),nv',ov'] (S.last+1,{L with snap:=true}):=⟨nv',ov',oc',ns,rfl,⟨hY.n,hY.o,hY.c,hY.p,hY.r⟩⟩;have hxx:=h2.at_ j hj;rw[hjl] at hxx;have hf:=h2.field (o:=3) (v:= .int .i64 (S.last+1)) hj (by decide) ((Qwh hxx).1 (S.last+1));have hfl:(List.take (j*7+3) cs' ++[V.int .i64 (S.last+1)]++List.drop (j*7+3+1) cs').length=S.lines.length*7:=by have:=hf.len;rw[Zg0] at this;exact this
  have apg:=fun g hg=>app_L (g:=g) (n:=S.lines.length) (d:=217) (cs:=List.take (j*7+3) cs' ++[V.int .i64 (S.last+1)]++List.drop (j*7+3+1) cs') (by omega) hlc2 hg hfl;have m216:Qv.mt 20 216=false:=rfl;have ial:=ia_L (S:=S) hj;have c7:j*7+3+1<=S.lines.length*7:=by omega
  simp only[wA,↓Qc,simprocAttr,y1,y2,y3,y4,u,m216,ial,c7,hl2,Qu,apg,zH,Ze,Qo,twL,twG,Qk,c0,wM,atj,↓ra,↓ht,x1,x2,x3,x4,Qf,Zm,Qj,Qy,Qn,Q3,Qh,Q4,Qi,s1,s2,s3,s4,V.pure,Zgp,ta,wH,wB];refine W.opsT (by kernel_rfl) ?_;simp only[wA,↓Qc,simprocAttr];have hcc:=Zy.add hlc2 hf;refine W.done (Zg.ret rfl (Qbv (cs:=splice cs' (j*7+3) [V.int .i64 (S.last+1)]++[.int .i64 (S.last+1),.bool true,.int .i64 L.owner,.int .i64 L.prev,.int .i64 (L.key:Int),nv',ov']) (n:=S.lines.length+1) (hpf _) (hlf _) (hcc.scal.2.2.2 _ 7) (by simp[Zu]) (by rw[hcc.len];simp) rfl rfl rfl) ⟨_,_,rfl,?_,?_⟩)
  . rw[hd];have:=Qbx (S:=S) (made:=S.last+1) hcc;simp only[Zfv,Zg0,Zgz,Zg2] at this;exact this
  . rw[hd];exact⟨.nS,.nS,.nS,rfl,Qx.nil,Ql.nil,Y0.nil⟩
theorem Qd8(l:List (Int×Qe))(a b:Int):Mod.ids (Xs l a b)=Mod.ids l:=by unfold Mod.ids Xs;rw[Zfp];apply Zgs;intro p _;simp only[Function.comp];split<;>rfl
theorem Q4e{l:List (Int×Qe)}{a b:Int}{j:Nat}(hu:(Mod.ids l).Nodup)(hj:j<l.length)(h:l[j].1=a):Qnb l j a b l.length=Qa0 (Xs l a b) a:=by unfold Qnb;rw[Zg7,Qt8 (j:=j) (by rw[Qd8];exact hu) (by simpa [Xs] using hj)];simp only[Xs,List.getElem_map];split<;>exact h
set_option maxHeartbeats 8000000 in
theorem Q1d(pv lv hv:V)(cs:List V)(S:MSt)(h:HsR pv lv hv cs S)(kk:Nat)(ok:J1 S kk)(hkk:kk<=500)(hkn:S.keys.length<=kk)(c:Zc)(dv:V)(hc:Ye c dv)(hk:c.kind=6)(L:Qe)(hL:Zw S.lines c.a=some L):
 Fz Tryz.prog Qv 20 [.agg (Qo S.last pv lv hv),.agg (Qf c dv)] fun r=>∃hv' rv,r= .tuple [hv',rv]/\Ke hv' (Q2 S c).1/\Y4 rv (Q2 S c).2:=by
 refine Jx Tryz.func20 rfl ?_;have s1:=Qz h.p;have s2:=Qz h.l;have s3:=Qz h.h;have s4:=Qz hc.data;have p1:=Ql.pure h.p;have p2:=Ql.pure h.l;have p3:=Ql.pure h.h;have p4:=Ql.pure hc.data;have hln:S.lines.length<=500:=by have:=ok.cnt;omega
 have hl0:=ok.last0;have hl1:=ok.last1;have tc:=B1 pv lv hv cs S h kk ok (by omega) (by omega);have lh:=h.h.len Tryz.underlying48;have u:=Tryz.underlying48;simp only[wA,↓Qc,simprocAttr,Tryz.ntmps20,Qo,Qf,s1,s2,s3,s4,p1,p2,p3,p4,V.pure,Zgp,ta,wH,wB];refine W.call tc rfl rfl rfl rfl rfl ?_;obtain⟨j,hj,hjl,hpl⟩:=Y7 0 hL;rw[Zff] at hpl;have hn0:S.lines.length≠0:=by omega
 have okL:Q5 L:=ok.line hL;have hkey:L.key<S.keys.length:=ok.key _ (Zh hL);have hid1:1<=c.a:=ok.id0 _ (Zh hL);have hid2:c.a<=S.last:=ok.id1 _ (Zh hL);have hlx:=h.c.at_ j hj;rw[hjl] at hlx;obtain⟨nv,ov,oc,ns,he,hX⟩:=hlx;simp only at he hX;have ra:Zf Tryz.prog 81 cs ((j:Int).toNat*7)=some (.agg ((cs.drop (j*7)).take 7)):=by rw[Qj7,if_pos (by rw[h.c.len];have:(j:Int).toNat=j:=rfl;omega)];rfl
 rw[he] at ra;have atj:=h.h.at (k:= .i64) u Qa2 (by decide) (i:=(j:Int)) (by omega) (by omega);have x1:=Qz hX.n;have x2:=Qz hX.o;have x3:=Ql.pure hX.n;have x4:=Ql.pure hX.o;have c0:decide ((j:Int)<0)=false:=Zih (by omega);have wM:(IntKind.i64).wrap (S.last+1)=S.last+1:=by rw[wrap_i64]<;>omega
 obtain⟨kind,a,b,cc,name,as_,text,data⟩:=c;simp only at hk hL hpl hjl hid1 hid2 he ra;subst hk;rintro v H' (⟨h1,h2,_,_⟩|⟨h1,cs',h2,rfl,rfl⟩)
 . exact absurd (by rw[h2];rfl) hn0
 obtain⟨et,ef⟩:=Qcu hn0 cs';rw[ef,et];have hw:WF [[(4,.cells zH),(5,.cells Ze),(6,.cells (twL S S.last S.lines.length))],twG S (Zu S) cs' S.lines.length]:=by unfold WF twG twL;simp[Jj,Jt,O.refs,Zv,V.refs,zH,Ze,Bj,Bi,h2.scal.2.2.1,show Nat.ble 2 1=false from rfl]
 have ht:=fun d=>B3 hw (by simp) S.last cs S.lines s1 s2 h.h h.c (by omega) a d;rw[hpl] at ht;have hl2:=h2.len;have hlc:=Jz S;have hcf:=fun g=>h2.scal.2.2.2 g 7;have hpf:=fun g=>(Bd S.keys).2 g 8;have hlf:=fun g=>(Y9 S.keys).2 g 8;simp only[zH,Ze,Qo,twL,twG] at ht;have hde:=Qsj pv lv hv cs S h kk ok (by omega) (by omega) j hj;rw[hjl] at hde;simp only at hde;have hdb:Qqa S a L=((!L.snap&&decide (0<Qdy S.lines a))||(L.snap&&decide (1<Qal S.lines a))):=by unfold Qqa;rw[Bool.or_comm]
 have hac:=Q4e (b:=L.prev) ok.uniq hj (by rw[hjl]);have hfr:=Qt (f:=frz (fun _ _=>none) depth) (Kn (made:=S.last) h.p h.l h.h (fun _ _=>none) 10) (Qt (x:= .int .i64 (j:Int)) rfl (l:=[]) (m:=[]) rfl);simp only[wA,↓Qc,simprocAttr,zH,Ze,Qo,twL,twG,Qk,c0,wM,atj,↓ra,↓ht,x1,x2,x3,x4,Qf,Zm,Qj,Qy,Qn,Q3,Qh,Q4,Qi,s1,s2,s3,s4,V.pure,Zgp,ta,wH,wB];refine W.pcall hde rfl rfl hfr ?_;cases hB:Qqa S a L with
 |true=>
  have hd:Q2 S ⟨6,a,b,cc,name,as_,text,data⟩=(S,Zl 230):=by rw[hdb] at hB;simp[Q2,Y3,hL,hB]
  rintro _ ⟨_,⟨pv2,lv2,hv2,cs2,rfl,hH⟩,rfl⟩;simp only[if_true] at hH⊢;have z1:=Qz hH.p;have z2:=Qz hH.l;have z3:=Qz hH.h;simp only[wA,↓Qc,simprocAttr,z1,z2,z3,Q7,zH,Ze,Qo,twL,twG,Qk,c0,wM,atj,↓ra,↓ht,x1,x2,x3,x4,Qf,Zm,Qj,Qy,Qn,Q3,Qh,Q4,Qi,s1,s2,s3,s4,V.pure,Zgp,ta,wH,wB];refine W.done (Zg.ret rfl (Z1 hH _ 230) ⟨_,_,rfl,?_,?_⟩)
  . rw[hd];exact⟨pv2,lv2,hv2,cs2,rfl,hH⟩
  . rw[hd];exact Zk 230
 |false=>
  have hd:Q2 S ⟨6,a,b,cc,name,as_,text,data⟩=({S with lines:=Qa0 (Xs S.lines a L.prev) a},Zl 0):=by rw[hdb] at hB;simp[Q2,Y3,hL,hB]
  rintro _ ⟨_,⟨pv2,lv2,hv2,cs2,rfl,hH⟩,rfl⟩;simp only[Ze7,if_false] at hH⊢;have z1:=Qz hH.p;have z2:=Qz hH.l;have z3:=Qz hH.h;simp only[wA,↓Qc,simprocAttr,z1,z2,z3,Q7,zH,Ze,Qo,twL,twG,Qk,c0,wM,atj,↓ra,↓ht,x1,x2,x3,x4,Qf,Zm,Qj,Qy,Qn,Q3,Qh,Q4,Qi,s1,s2,s3,s4,V.pure,Zgp,ta,wH,wB];refine W.done (Zg.ret rfl (Z1 (made:=S.last) hH _ 0) ⟨_,_,rfl,?_,?_⟩)
  . rw[hd,<-hac];exact⟨pv2,lv2,hv2,cs2,rfl,hH⟩
  . rw[hd];exact Zk 0
theorem Qwv{c:List V}{a:Int}{L X:Qe}{nv' :V}{ns' :List (Qq×Int)}(h:LnC c (a,L))(hn:Qdh nv' ns')(hp:ns'.Perm X.names)(hr:Qi8 ns'):LnC (c.set 5 nv') (a,{L with names:=X.names}):=by obtain⟨nv,ov,oc,ns,rfl,h1⟩:=h;exact⟨nv',ov,oc,ns',rfl,⟨hn,h1.o,h1.c,hp,hr⟩⟩
theorem Q0b{c:List V}{a:Int}{L X:Qe}{ov' :V}{oc' :List V}(h:LnC c (a,L))(ho:Ql 3 ov' oc' 16)(hc:Xy oc' X.objs):LnC (c.set 6 ov') (a,{L with objs:=X.objs}):=by obtain⟨nv,ov,oc,ns,rfl,h1⟩:=h;exact⟨nv,ov',oc',ns,rfl,⟨h1.n,ho,hc,h1.p,h1.r⟩⟩
set_option maxHeartbeats 8000000 in
theorem Q17(pv lv hv:V)(cs:List V)(S:MSt)(h:HsR pv lv hv cs S)(kk:Nat)(ok:J1 S kk)(hkk:kk<=500)(hkn:S.keys.length<=kk)(c:Zc)(dv:V)(hc:Ye c dv)(hk:c.kind=5)(L:Qe)(hL:Zw S.lines c.a=some L):
 Fz Tryz.prog Qv 20 [.agg (Qo S.last pv lv hv),.agg (Qf c dv)] fun r=>∃hv' rv,r= .tuple [hv',rv]/\Ke hv' (Q2 S c).1/\Y4 rv (Q2 S c).2:=by
 refine Jx Tryz.func20 rfl ?_;have s1:=Qz h.p;have s2:=Qz h.l;have s3:=Qz h.h;have s4:=Qz hc.data;have p1:=Ql.pure h.p;have p2:=Ql.pure h.l;have p3:=Ql.pure h.h;have p4:=Ql.pure hc.data;have hln:S.lines.length<=500:=by have:=ok.cnt;omega
 have hl0:=ok.last0;have hl1:=ok.last1;have tc:=B1 pv lv hv cs S h kk ok (by omega) (by omega);have lh:=h.h.len Tryz.underlying48;have u:=Tryz.underlying48;simp only[wA,↓Qc,simprocAttr,Tryz.ntmps20,Qo,Qf,s1,s2,s3,s4,p1,p2,p3,p4,V.pure,Zgp,ta,wH,wB];refine W.call tc rfl rfl rfl rfl rfl ?_;obtain⟨j,hj,hjl,hpl⟩:=Y7 0 hL;rw[Zff] at hpl;have hn0:S.lines.length≠0:=by omega
 have okL:Q5 L:=ok.line hL;have hkey:L.key<S.keys.length:=ok.key _ (Zh hL);have hid1:1<=c.a:=ok.id0 _ (Zh hL);have hid2:c.a<=S.last:=ok.id1 _ (Zh hL);have hlx:=h.c.at_ j hj;rw[hjl] at hlx;obtain⟨nv,ov,oc,ns,he,hX⟩:=hlx;simp only at he hX;have ra:Zf Tryz.prog 81 cs ((j:Int).toNat*7)=some (.agg ((cs.drop (j*7)).take 7)):=by rw[Qj7,if_pos (by rw[h.c.len];have:(j:Int).toNat=j:=rfl;omega)];rfl
 rw[he] at ra;have atj:=h.h.at (k:= .i64) u Qa2 (by decide) (i:=(j:Int)) (by omega) (by omega);have x1:=Qz hX.n;have x2:=Qz hX.o;have x3:=Ql.pure hX.n;have x4:=Ql.pure hX.o;have c0:decide ((j:Int)<0)=false:=Zih (by omega);have wM:(IntKind.i64).wrap (S.last+1)=S.last+1:=by rw[wrap_i64]<;>omega
 obtain⟨kind,a,b,cc,name,as_,text,data⟩:=c;simp only at hk hL hpl hjl hid1 hid2 he ra;subst hk;rintro v H' (⟨h1,h2,_,_⟩|⟨h1,cs',h2,rfl,rfl⟩)
 . exact absurd (by rw[h2];rfl) hn0
 obtain⟨et,ef⟩:=Qcu hn0 cs';rw[ef,et];have hw:WF [[(4,.cells zH),(5,.cells Ze),(6,.cells (twL S S.last S.lines.length))],twG S (Zu S) cs' S.lines.length]:=by unfold WF twG twL;simp[Jj,Jt,O.refs,Zv,V.refs,zH,Ze,Bj,Bi,h2.scal.2.2.1,show Nat.ble 2 1=false from rfl]
 have ht:=fun d=>B3 hw (by simp) S.last cs S.lines s1 s2 h.h h.c (by omega) a d;rw[hpl] at ht;have hl2:=h2.len;have hlc:=Jz S;have hcf:=fun g=>h2.scal.2.2.2 g 7;have hpf:=fun g=>(Bd S.keys).2 g 8;have hlf:=fun g=>(Y9 S.keys).2 g 8;simp only[zH,Ze,Qo,twL,twG] at ht;cases hsn:L.snap with
 |true=>
  have hd:Q2 S ⟨5,a,b,cc,name,as_,text,data⟩=(S,Zl 202):=by simp[Q2,Qca,hL,hsn]
  simp only[wA,↓Qc,simprocAttr,hsn,zH,Ze,Qo,twL,twG,Qk,c0,wM,atj,↓ra,↓ht,x1,x2,x3,x4,Qf,Zm,Qj,Qy,Qn,Q3,Qh,Q4,Qi,s1,s2,s3,s4,V.pure,Zgp,ta,wH,wB];refine W.pcallT (Yf 202) rfl rfl rfl ?_;rintro _ rfl;simp only[wA,↓Qc,simprocAttr,Q7,zH,Ze,Qo,Qf,Zm,Qj,Qy,Qn,Q3,Qh,Q4,Qi,s1,s2,s3,s4,V.pure,Zgp,ta,wH,wB];refine W.opsT (by kernel_rfl) ?_;simp only[wA,↓Qc,simprocAttr];refine W.done (Zg.ret rfl (Z1 h _ 202) ⟨_,_,rfl,?_,?_⟩)
  . rw[hd];exact⟨pv,lv,hv,cs,rfl,h⟩
  . rw[hd];exact Zk 202
 |false=>
  by_cases hp0:L.prev=0
  . have hd:Q2 S ⟨5,a,b,cc,name,as_,text,data⟩=(S,Zl 2):=by simp[Q2,Qca,hL,hsn,hp0]
    have e1:(L.prev==0)=true:=by simp[hp0]
    simp only[wA,↓Qc,simprocAttr,hsn,e1,zH,Ze,Qo,twL,twG,Qk,c0,wM,atj,↓ra,↓ht,x1,x2,x3,x4,Qf,Zm,Qj,Qy,Qn,Q3,Qh,Q4,Qi,s1,s2,s3,s4,V.pure,Zgp,ta,wH,wB];refine W.pcallT (Yf 2) rfl rfl rfl ?_;rintro _ rfl;simp only[wA,↓Qc,simprocAttr,Q7,zH,Ze,Qo,Qf,Zm,Qj,Qy,Qn,Q3,Qh,Q4,Qi,s1,s2,s3,s4,V.pure,Zgp,ta,wH,wB];refine W.opsT (by kernel_rfl) ?_;simp only[wA,↓Qc,simprocAttr];refine W.done (Zg.ret rfl (Z1 h _ 2) ⟨_,_,rfl,?_,?_⟩)
    . rw[hd];exact⟨pv,lv,hv,cs,rfl,h⟩
    . rw[hd];exact Zk 2
  . have e1:(L.prev==0)=false:=by simp[hp0]
    obtain⟨X,hX1,hX2⟩:=ok.prevOf hL hp0;have okX:Q5 X:=ok.line hX1;have hd:Q2 S ⟨5,a,b,cc,name,as_,text,data⟩=({S with lines:=S.lines.set j (a,{L with names:=X.names,objs:=X.objs})},Zl 0):=by have e:putL S.lines a {L with names:=X.names,objs:=X.objs}=S.lines.set j (a,{L with names:=X.names,objs:=X.objs}):=Qea ok.uniq hj (by rw[hjl]);simp only[hsn] at e;simp[Q2,Qca,hL,hsn,hp0,hX1,e]
    obtain⟨j2,hj2,hjl2,hpl2⟩:=Y7 0 hX1;rw[Zff] at hpl2;have hlx2:=h.c.at_ j2 hj2;rw[hjl2] at hlx2;obtain⟨nv2,ov2,oc2,ns2,he2,hXX⟩:=hlx2;simp only at he2 hXX;have ra2:Zf Tryz.prog 81 cs ((j2:Int).toNat*7)=some (.agg ((cs.drop (j2*7)).take 7)):=by rw[Qj7,if_pos (by rw[h.c.len];have:(j2:Int).toNat=j2:=rfl;omega)];rfl
    rw[he2] at ra2;have atj2:=h.h.at (k:= .i64) u Qa2 (by decide) (i:=(j2:Int)) (by omega) (by omega);have xx1:=Qz hXX.n;have xx2:=Qz hXX.o;have hw2:WF [[(4,.cells zH),(5,.cells Ze),(6,.cells (twL S S.last S.lines.length)),(11,.cells (Qk a L.snap L.owner L.prev (L.key:Int) nv ov))],twG S (Zu S) cs' S.lines.length]:=by unfold WF twG twL;simp[Jj,Jt,O.refs,Zv,V.refs,zH,Ze,Qk,Ql.noRefs hX.n,Ql.noRefs hX.o,Bj,Bi,h2.scal.2.2.1,show Nat.ble 2 1=false from rfl]
    have ht2:=fun d=>B3 hw2 (by simp) S.last cs S.lines s1 s2 h.h h.c (by omega) L.prev d;rw[hpl2] at ht2;simp only[zH,Ze,Qo,twL,twG,Qk,hsn] at ht2;have tf:=Qem L.prev (X.key:Int) nv2 ov2 oc2 ns2 X hXX okX;simp only[wA,↓Qc,simprocAttr,hsn,e1,↓ht2,atj2,↓ra2,xx1,xx2,zH,Ze,Qo,twL,twG,Qk,c0,wM,atj,↓ra,↓ht,x1,x2,x3,x4,Qf,Zm,Qj,Qy,Qn,Q3,Qh,Q4,Qi,s1,s2,s3,s4,V.pure,Zgp,ta,wH,wB];refine W.pcallT tf rfl rfl (Qt (Qbb hXX.n hXX.o) rfl) ?_;rintro _ ⟨nv',ov',oc',rfl,hY⟩;have y1:=Qz hY.n;have y2:=Qz hY.o;have y3:=Ql.cells hY.n;have y4:=Ql.cells hY.o;simp only[wA,↓Qc,simprocAttr,y1,y2,zH,Ze,Qo,twL,twG,Qk,c0,wM,atj,↓ra,↓ht,x1,x2,x3,x4,Qf,Zm,Qj,Qy,Qn,Q3,Qh,Q4,Qi,s1,s2,s3,s4,V.pure,Zgp,ta,wH,wB];refine W.opsT (by kernel_rfl) ?_;have hxx:=h2.at_ j hj;rw[hjl] at hxx;have hf1:=h2.field (o:=5) (v:=nv') hj (by decide) (Qwv hxx hY.n hY.p hY.r);have hj' :j<(S.lines.set j (a,{L with names:=X.names})).length:=by rw[Zg0];exact hj
    have hxx2:=hf1.at_ j hj';rw[List.getElem_set_self] at hxx2;have hf2:=hf1.field (o:=6) (v:=ov') hj' (by decide) (Q0b hxx2 hY.o hY.c);rw[List.set_set] at hf2;have ial:=ia_L (S:=S) hj;have c7:j*7+5+1<=S.lines.length*7:=by omega
    have c8:j*7+6+1<=S.lines.length*7:=by omega
    have hfl:(List.take (j*7+5) cs' ++[nv']++List.drop (j*7+5+1) cs').length=S.lines.length*7:=by have:=hf1.len;rw[Zg0] at this;exact this
    simp only[wA,↓Qc,simprocAttr,y1,y2,y3,y4,Q7,ial,c7,c8,hl2,hfl,zH,Ze,Qo,twL,twG,Qk,c0,wM,atj,↓ra,↓ht,x1,x2,x3,x4,Qf,Zm,Qj,Qy,Qn,Q3,Qh,Q4,Qi,s1,s2,s3,s4,V.pure,Zgp,ta,wH,wB];refine W.done (Zg.ret rfl (Qbv (cs:=splice (splice cs' (j*7+5) [nv']) (j*7+6) [ov']) (n:=S.lines.length) (hpf _) (hlf _) (hf2.scal.2.2.2 _ 7) (by simp[Zu]) (by have:=hf2.len;rwa[Zg0] at this) rfl rfl rfl) ⟨_,_,rfl,?_,?_⟩)
    . rw[hd];have:=Qbx (S:=S) (made:=S.last) hf2;simp only[Zg0] at this;exact this
    . rw[hd];exact Zk 0
theorem Qz2:byt Tryz.prog 3=some 8:=by kernel_rfl
theorem Qox(g:Get)(m:Nat):∀l:List Int,frzL (frz g (m+1)) (Jm l)=some (Jm l)
 |[]=>rfl
 |s::l=>by
  have:=Qox g m l;simp only[Jm,Zfn,frzL] at this⊢;simp only[this];rfl
theorem Q0t{k:Nat}(l:List Int){n:Nat}(hn:n=l.length):∃r,(∀(g:Get) (m:Nat),frz g (m+2) (Ji k (Jm l) n 1)=some r)/\Y0 r l:=by
 subst hn;cases l with
 |nil=>exact⟨.nS,fun _ _=>rfl,Y0.nil⟩
 |cons e l=>
  refine⟨.iS (Jm (e::l)) (e::l).length false,fun g m=>?_,Y0.mk _ _⟩;show(frzL (frz g (m+1)) (Jm (e::l))).map _=_;rw[Qox];rfl
set_option maxHeartbeats 8000000 in
theorem Qxe(pv lv hv:V)(cs:List V)(S:MSt)(h:HsR pv lv hv cs S)(kk:Nat)(ok:J1 S kk)(hkk:kk<=500)(hkn:S.keys.length<=kk)(hri:(Mod.ids S.lines).Pairwise (· < ·))(c:Zc)(dv:V)(hc:Ye c dv)(hk:c.kind=19):
 Fz Tryz.prog Qv 20 [.agg (Qo S.last pv lv hv),.agg (Qf c dv)] fun r=>∃hv' rv,r= .tuple [hv',rv]/\Ke hv' (Q2 S c).1/\Y4 rv (Q2 S c).2:=by
 refine Jx Tryz.func20 rfl ?_;have s1:=Qz h.p;have s2:=Qz h.l;have s3:=Qz h.h;have s4:=Qz hc.data;have p1:=Ql.pure h.p;have p2:=Ql.pure h.l;have p3:=Ql.pure h.h;have p4:=Ql.pure hc.data;have hln:S.lines.length<=500:=by have:=ok.cnt;omega
 have hl0:=ok.last0;have hl1:=ok.last1;have tc:=B1 pv lv hv cs S h kk ok (by omega) (by omega);have lh:=h.h.len Tryz.underlying48;have u:=Tryz.underlying48;simp only[wA,↓Qc,simprocAttr,Tryz.ntmps20,Qo,Qf,s1,s2,s3,s4,p1,p2,p3,p4,V.pure,Zgp,ta,wH,wB];refine W.call tc rfl rfl rfl rfl rfl ?_;have hd:Q2 S c=(S,{Zl 0 with lines:=Mod.ids S.lines}):=by simp[Q2,hk,Qwn,Qwu hri]
 obtain⟨kind,a,b,cc,name,as_,text,data⟩:=c;simp only at hk;subst hk;have hids:=h.c.ids;have m80:Qv.mt 20 80=false:=rfl;have ui:=Tryz.underlying28;intro v H' hcase;obtain⟨tv,T,rfl,rfl,hsc,hlen⟩:∃tv T,v= .agg tv/\H' =[(4,.cells zH),(5,.cells Ze)]::T/\tv.all V.scalar=true/\tv.length=4:=by
  rcases hcase with⟨h1,h2,rfl,rfl⟩|⟨h1,cs',h2,rfl,rfl⟩
  . exact⟨_,[],rfl,rfl,rfl,rfl⟩
  . exact⟨_,_,rfl,rfl,by unfold twV Qo;split<;>rfl,rfl⟩
 simp only[wA,↓Qc,simprocAttr,zH,Ze,Qo,hsc,hlen,Qf,Zm,Qj,Qy,Qn,Q3,Qh,Q4,Qi,s1,s2,s3,s4,V.pure,Zgp,ta,wH,wB];refine W.ul ?_;refine W.loopS (kt:=[2,4,5,8,9]) rfl (fun i:Nat=>Qzh (.iptr [.int .i64 S.last,pv,lv,hv] 0) (.ptr 0 4 0) (.ptr 0 5 0) (Ji 81 (Jm ((Mod.ids S.lines).take i)) i 1) (.int .i64 i)) (fun i=>((4,.cells zH)::(5,.cells Ze)::(6,.cells tv)::Kb 81 i)::T) (fun i=>i<=S.lines.length) (fun i=>S.lines.length-i) ?_ 0 (by omega) rfl rfl;intro i hi;simp only[Qzh];have key:i<S.lines.length\/¬i<S.lines.length:=Classical.em _;rcases key with q|q
 . have c1:decide ((i:Int)<S.lines.length)=true:=Zig (by omega);have wi:(IntKind.i64).wrap ((i:Int)+1)=((i+1:Nat):Int):=by rw[wrap_i64]<;>omega
   have ati:=h.h.at (k:= .i64) u Qa2 (by decide) (i:=(i:Int)) (by omega) (by omega);have qi:i<(Mod.ids S.lines).length:=by rw[Qaz];exact q
   have g1:=hids.at_ i qi;have g1' :cs[(i:Int).toNat*7]?=some (.int .i64 (Mod.ids S.lines)[i]):=g1;have g1'' :cs[(i:Int).toNat*7+0]?=some (.int .i64 (Mod.ids S.lines)[i]):=g1;have ht:Jm ((Mod.ids S.lines).take (i+1))=Jm ((Mod.ids S.lines).take i)++[.int .i64 (Mod.ids S.lines)[i]]:=by rw[Zg6,Ze3 qi,Zhu];unfold Jm;rw[Zgw];rfl
   by_cases hn:i=0
   . have ap:=Qmd (f:=20) (d:=81) (g:=Qd (((4,.cells zH)::(5,.cells Ze)::(6,.cells tv)::[])::T)) (cs:=[.int .i64 (Mod.ids S.lines)[i]]) ui sz3 Qz2 zc3 rfl (by decide) rfl rfl rfl rfl rfl;have og:Ji 81 (Jm ((Mod.ids S.lines).take i)) i 1= .nS:=by rw[hn];rfl
     have oh:Kb 81 i=[]:=by rw[hn];rfl
     have e0:Jm ((Mod.ids S.lines).take (i+1))=[.int .i64 (Mod.ids S.lines)[i]]:=by rw[ht,show Jm ((Mod.ids S.lines).take i)=[] by rw[hn];rfl];rfl
     have e1:Ji 81 (Jm ((Mod.ids S.lines).take (i+1))) (i+1) 1= .gS 0 81 [.int .i64 (Mod.ids S.lines)[i]] 1 1:=by rw[e0];unfold Ji;simp[hn]
     have e2:Kb 81 (i+1)=[(81,.grow 1)]:=by unfold Kb;simp[hn]
     rw[og,oh];simp only[wA,↓Qc,simprocAttr,c1,ati,g1',g1'',lh,ui,m80,Qu,↓ap,wi,Qf,Zm,Qj,Qy,Qn,Q3,Qh,Q4,Qi,s1,s2,s3,s4,V.pure,Zgp,ta,wH,wB];exact W.done ⟨i+1,by simp only[e1];rfl,by simp only[e2],by omega,by omega⟩
   . have ap:=Qrg (f:=20) (d:=81) (k:=81) (m:=i) (c0:=Jm ((Mod.ids S.lines).take i)) (g:=Qd (((4,.cells zH)::(5,.cells Ze)::(6,.cells tv)::[(81,.grow i)])::T)) (cs:=[.int .i64 (Mod.ids S.lines)[i]]) ui sz3 Qz2 zc3 rfl (by decide) rfl rfl (by omega) rfl;have og:Ji 81 (Jm ((Mod.ids S.lines).take i)) i 1= .gS 0 81 (Jm ((Mod.ids S.lines).take i)) i 1:=if_neg hn;have oh:Kb 81 i=[(81,.grow i)]:=if_neg hn;rw[og,oh];simp only[wA,↓Qc,simprocAttr,c1,ati,g1',g1'',lh,ui,m80,Qu,↓ap,wi,Qf,Zm,Qj,Qy,Qn,Q3,Qh,Q4,Qi,s1,s2,s3,s4,V.pure,Zgp,ta,wH,wB];exact W.done ⟨i+1,by rw[ht];rfl,rfl,by omega,by omega⟩
 . have c1:decide ((i:Int)<S.lines.length)=false:=Zih (by omega);have e:i=S.lines.length:=by omega
   subst e;rw[show(Mod.ids S.lines).take S.lines.length=Mod.ids S.lines from Zhi (Nat.le_of_eq (Qaz _))];have sc:(Ji 81 (Jm (Mod.ids S.lines)) S.lines.length 1).scalar=true:=by unfold Ji;split<;>rfl
   have cl:(Ji 81 (Jm (Mod.ids S.lines)) S.lines.length 1).cells=some [Ji 81 (Jm (Mod.ids S.lines)) S.lines.length 1]:=by unfold Ji;split<;>rfl
   obtain⟨r,f1,f2⟩:=Q0t (k:=81) (Mod.ids S.lines) (n:=S.lines.length) (Qaz _).symm;generalize Ji 81 (Jm (Mod.ids S.lines)) S.lines.length 1=ov2 at*;simp only[wA,↓Qc,simprocAttr,c1,lh,Qf,Zm,Qj,Qy,Qn,Q3,Qh,Q4,Qi,s1,s2,s3,s4,V.pure,Zgp,ta,wH,wB];refine W.done ?_;simp only[wA,↓Qc,simprocAttr,sc,cl,zH,Ze,Qf,Zm,Qj,Qy,Qn,Q3,Qh,Q4,Qi,s1,s2,s3,s4,V.pure,Zgp,ta,wH,wB];refine W.done (Zg.ret (v:= .tuple [.agg (Qo S.last pv lv hv),.agg [.int .i64 0,.int .i64 0,.nS,.nS,.int .i64 0,.int .u8 0,.int .i64 0,.int .i64 0,.str [],ov2]]) (v' := .tuple [.agg (Qo S.last pv lv hv),.agg [.int .i64 0,.int .i64 0,.nS,.nS,.int .i64 0,.int .u8 0,.int .i64 0,.int .i64 0,.str [],r]]) rfl ?_ ⟨_,_,rfl,?_,?_⟩)
   . have f0:=Kn (made:=S.last) h.p h.l h.h (Qd (((4,.cells zH)::(5,.cells Ze)::(6,.cells tv)::Kb 81 S.lines.length)::T)) 9;generalize hgg:Qd _=g;have f0:=Kn (made:=S.last) h.p h.l h.h g 9;have f3:frz g 11 (.agg [.int .i64 0,.int .i64 0,.nS,.nS,.int .i64 0,.int .u8 0,.int .i64 0,.int .i64 0,.str [],ov2])=some (.agg [.int .i64 0,.int .i64 0,.nS,.nS,.int .i64 0,.int .u8 0,.int .i64 0,.int .i64 0,.str [],r]):=by
      show(frzL (frz g 10) _).map V.agg=_;simp only[frzL,f1 g 8];rfl
     show(frzL (frz g 11) _).map V.tuple=_;simp only[frzL,f0,f3];rfl
   . rw[hd];exact⟨pv,lv,hv,cs,rfl,h⟩
   . rw[hd];exact⟨.nS,.nS,r,rfl,Qx.nil,Ql.nil,f2⟩
end
end Go.Proofs.YtmapmgfiamfocaaGreat
