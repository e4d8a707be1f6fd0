/- This file holds in one the texts R23, R24, R25; each says at its head what it proves. -/
import Derived.Test.YtmapmgfiamfocaaGreatT26
set_option linter.unusedSimpArgs false
set_option linter.unusedVariables false
namespace Go.Proofs.YtmapmgfiamfocaaGreat
section
set_option maxRecDepth 100000
open Go.AM Go.Mod
attribute [local irreducible] U W
def zO:List V:=[.int .u8 0,.int .i64 0,.nS]
def z16:List V:=zerosN zO 16
theorem Qwk:∀n,Xy (zerosN zO n) (List.replicate n Qc2)
 |0=>rfl
 |n+1=>⟨.nS,zerosN zO n,rfl,Qx.nil,Qwk n⟩
theorem Q3j:Xy z16 (List.replicate 16 Qc2):=Qwk 16
theorem Qtr:z16.length=48:=rfl
def nwL(id key:Int)(ov:V):List V:=[.int .i64 id,.bool false,.int .i64 id,.int .i64 0,.int .i64 key,.nS,ov]
theorem new_ok(id:Int)(k:Nat):LnC (nwL id (k:Int) (.iS z16 16 true)) (id,Bb id k):=
 ⟨.nS,.iS z16 16 true,z16,[],rfl,⟨Ql.nil,Ql.mk Qtr,Q3j,List.Perm.nil,List.Pairwise.nil⟩⟩
theorem Qzu{g:Get}(hg:g 0 40=some (.cells z16))(id key:Int):frzL (frz g 9) (nwL id key (.mS 0 40 0 16 (some 16) 3))=some (nwL id key (.iS z16 16 true)):=by
 have f1:frz g 9 (.mS 0 40 0 16 (some 16) 3)=some (.iS z16 16 true):=by
  show(match g 0 40 with
   |some (.cells xs)=>if 0+16*3<=xs.length then(frzL (frz g 8) ((xs.drop 0).take (16*3))).map fun cs=>V.iS cs 16 (some 16==some 16) else none
   |_=>none)=_
  rw[hg];simp only[Qtr,Zhm];rw[if_pos (by decide),Zhi (by rw[Qtr];decide),Q3j.frzL g 7];rfl
 simp only[nwL,frzL,f1];rfl
theorem frzG{g:Get}{f s n e:Nat}{cs cs2:List V}(h:frzL (frz g 9) cs=some cs2):frz g 10 (.gS f s cs n e)=some (.iS cs2 n false):=by show(frzL (frz g 9) cs).map _=_;rw[h];rfl
theorem Qls{g:Get}{f s n e:Nat}{cs cs2:List V}(hg:g f s=some (.mgrow cs n))(hl:cs.length=n*e)(h:frzL (frz g 9) cs=some cs2):frz g 10 (.mg f s n e)=some (.iS cs2 n false):=by
 show(match g f s with
  |some (.mgrow xs k)=>if k=n/\xs.length=n*e then(frzL (frz _ 9) xs).map fun cs=>V.iS cs n false else none
  |_=>none)=_
 rw[hg];simp only[hl,and_self,if_true,h,Ze4]
theorem Qi4{g:Get}{made:Int}{v1 v2 v3 w1 w2 w3 rv rv' :V}(h1:frz g 10 v1=some w1)(h2:frz g 10 v2=some w2)(h3:frz g 10 v3=some w3)(hr:frz g 11 rv=some rv'):
 frz g depth (.tuple [.agg [.int .i64 made,v1,v2,v3],rv])=some (.tuple [.agg (Qo made w1 w2 w3),rv']):=by
 have f4:frz g 11 (.agg [.int .i64 made,v1,v2,v3])=some (.agg (Qo made w1 w2 w3)):=by show(frzL (frz g 10) _).map V.agg=_;simp only[frzL,h1,h2,h3];rfl
 show(frzL (frz g 11) _).map V.tuple=_;simp only[frzL,f4,hr];rfl
theorem Qll{S:MSt}{text:Qq}{cs' :List V}(h2:Zy cs' S.lines):Ke (.agg (Qo (S.last+1) (.iS (Jd S++[.str text]) (S.keys.length+1) false) (.iS (Zu S++[.bool true]) (S.keys.length+1) false) (.iS (cs' ++nwL (S.last+1) (S.keys.length:Int) (.iS z16 16 true)) (S.lines.length+1) false)))
 ⟨S.last+1,S.keys++[⟨text,true⟩],S.lines++[(S.last+1,Bb (S.last+1) S.keys.length)]⟩:=by
 have hc:=Zy.add (new_ok (S.last+1) S.keys.length) h2;have hl:=hc.len;refine⟨_,_,_,_,rfl,⟨?_,?_,?_,hc⟩⟩
 . simp only[Jd,Zgw,Zfn,Zfo,Zfv,Zgz,Zg2];exact Ql.mk (by simp)
 . simp only[Zu,Zgw,Zfn,Zfo,Zfv,Zgz,Zg2];exact Ql.mk (by simp)
 . simp only[Zfv,Zgz,Zg2] at hl⊢;exact Ql.mk (by simpa using hl)
theorem Qyc{g:Get}{c:List V}(h:g 0 57=some (.cells c))(hc:c.length=7):Z3 g 7 (.mS 0 57 0 1 (some 1) 7)=some (c,1):=by simp only[Z3,h,hc,true_and,Zff,Nat.one_mul,Ze8,if_true,Zhm];rw[<-hc,Zg7]
theorem Qd2{f s o n e:Nat}{c:Option Nat}:(V.mS f s o n c e).cells=some [.mS f s o n c e]:=rfl
set_option maxHeartbeats 8000000 in
theorem Q1x(pv lv hv:V)(cs:List V)(S:MSt)(h:HsR pv lv hv cs S)(kk:Nat)(ok:J1 S kk)(hkk:kk<=500)(hkn:S.keys.length<=kk)(c:Zc)(dv:V)(hc:Ye c dv)(hk:c.kind=1):
 Fz Tryz.prog Qv 20 [.agg (Qo S.last pv lv hv),.agg (Qf c dv)] fun r=>∃hv' rv,r= .tuple [hv',rv]/\Ke hv' (Q2 S c).1/\Y4 rv (Q2 S c).2:=by
 refine Jx Tryz.func20 rfl ?_;have s1:=Qz h.p;have s2:=Qz h.l;have s3:=Qz h.h;have s4:=Qz hc.data;have p1:=Ql.pure h.p;have p2:=Ql.pure h.l;have p3:=Ql.pure h.h;have p4:=Ql.pure hc.data;have hln:S.lines.length<=500:=by have:=ok.cnt;omega
 have hl0:=ok.last0;have hl1:=ok.last1;have tc:=B1 pv lv hv cs S h kk ok (by omega) (by omega);have lh:=h.h.len Tryz.underlying48;have u:=Tryz.underlying48;simp only[wA,↓Qc,simprocAttr,Tryz.ntmps20,Qo,Qf,s1,s2,s3,s4,p1,p2,p3,p4,V.pure,Zgp,ta,wH,wB];refine W.call tc rfl rfl rfl rfl rfl ?_;have us:=Tryz.underlying25;have ub:=Tryz.underlying47;have uo:=Tryz.underlying79;have m46:Qv.mt 20 46=false:=rfl;have m51:Qv.mt 20 51=false:=rfl;have m57:Qv.mt 20 57=true:=rfl;have ro:Qa1 16 40=true:=by decide
 have hz16:zerosN [V.int .u8 0,.int .i64 0,.nS] 16=z16:=rfl;have wM:(IntKind.i64).wrap (S.last+1)=S.last+1:=by rw[wrap_i64]<;>omega
 obtain⟨kind,a,b,cc,name,as_,text,data⟩:=c;simp only at hk;subst hk;by_cases hte:64<text.length
 . have d1:decide ((text.length:Int)>64)=true:=Zig (by omega);have hd:Q2 S ⟨1,a,b,cc,name,as_,text,data⟩=(S,Zl 3):=by simp[Q2,Qng,hte]
   rintro v H' (⟨h1,h2,rfl,rfl⟩|⟨h1,cs',h2,rfl,rfl⟩)
   . simp only[wA,↓Qc,simprocAttr,zH,Ze,Qo,d1,Qf,Zm,Qj,Qy,Qn,Q3,Qh,Q4,Qi,s1,s2,s3,s4,V.pure,Zgp,ta,wH,wB];refine W.pcallT (Yf 3) rfl rfl rfl ?_;rintro _ rfl;simp only[wA,↓Qc,simprocAttr,Q7,zH,Ze,Qo,Qf,Zm,Qj,Qy,Qn,Q3,Qh,Q4,Qi,s1,s2,s3,s4,V.pure,Zgp,ta,wH,wB];refine W.opsT (by kernel_rfl) ?_;simp only[wA,↓Qc,simprocAttr];refine W.done (Zg.ret rfl (Z1 h _ 3) ⟨_,_,rfl,?_,?_⟩)
     . rw[hd];exact⟨pv,lv,hv,cs,rfl,h⟩
     . rw[hd];exact Zk 3
   . have hsc:(twV 1 S S.lines.length).all V.scalar=true:=by unfold twV Qo;split<;>rfl
     have hlen:(twV 1 S S.lines.length).length=4:=rfl;simp only[wA,↓Qc,simprocAttr,zH,Ze,Qo,hsc,hlen,d1,Qf,Zm,Qj,Qy,Qn,Q3,Qh,Q4,Qi,s1,s2,s3,s4,V.pure,Zgp,ta,wH,wB];refine W.pcallT (Yf 3) rfl rfl rfl ?_;rintro _ rfl;simp only[wA,↓Qc,simprocAttr,Q7,zH,Ze,Qo,Qf,Zm,Qj,Qy,Qn,Q3,Qh,Q4,Qi,s1,s2,s3,s4,V.pure,Zgp,ta,wH,wB];refine W.opsT (by kernel_rfl) ?_;simp only[wA,↓Qc,simprocAttr];refine W.done (Zg.ret rfl (Z1 h _ 3) ⟨_,_,rfl,?_,?_⟩)
     . rw[hd];exact⟨pv,lv,hv,cs,rfl,h⟩
     . rw[hd];exact Zk 3
 . have d1:decide ((text.length:Int)>64)=false:=Zih (by omega);have hd:Q2 S ⟨1,a,b,cc,name,as_,text,data⟩=(⟨S.last+1,S.keys++[⟨text,true⟩],S.lines++[(S.last+1,Bb (S.last+1) S.keys.length)]⟩,{Zl 0 with id:=S.last+1}):=by simp[Q2,Qng,hte]
   rintro v H' (⟨h1,h2,rfl,rfl⟩|⟨h1,cs',h2,rfl,rfl⟩)
   . have hk0:S.keys.length=0:=by rw[h1];rfl
     have hl0:S.lines.length=0:=by rw[h2];rfl
     have a47:=fun g hg=>Qmd (f:=20) (d:=47) (g:=g) (cs:=[.str text]) us sz9 Qhs zc9 rfl (by decide) rfl rfl rfl rfl hg;have a52:=fun g hg=>Qmd (f:=20) (d:=52) (g:=g) (cs:=[.bool true]) ub sz4 Qig zc4 rfl (by decide) rfl rfl rfl rfl hg;have a58:=fun g hg hg2=>(Qaj (P:=Tryz.prog) (mt:=Qv.mt 20) (fr:=0) (dst:=some 58) (g:=g) (m:=1) (x:= .mS 0 57 0 1 (some 1) 7) (cs:=[.int .i64 (S.last+1),.bool false,.int .i64 (S.last+1),.int .i64 0,.int .i64 (0:Int),.nS,.mS 0 40 0 16 (some 16) 3]) u Qa2 Qbi Qkv rfl u (Qyc (g:=g) hg rfl) (by decide) (Jb (by decide) (by decide))).trans (Qcq (mt:=Qv.mt 20) (fr:=0) (d:=58) (g:=g) rfl hg2 rfl rfl);simp only[wA,↓Qc,simprocAttr,zH,Ze,Qo,d1,wM,a47,a52,a58,Qey,ro,hz16,us,ub,u,uo,m46,m51,m57,Qu,Qd2,Qck,Qf,Zm,Qj,Qy,Qn,Q3,Qh,Q4,Qi,s1,s2,s3,s4,V.pure,Zgp,ta,wH,wB];refine W.opsT (by kernel_rfl) ?_;simp only[wA,↓Qc,simprocAttr,zH,Ze,Qo,d1,wM,a47,a52,a58,Qey,ro,hz16,us,ub,u,uo,m46,m51,m57,Qu,Qd2,Qck,Qf,Zm,Qj,Qy,Qn,Q3,Qh,Q4,Qi,s1,s2,s3,s4,V.pure,Zgp,ta,wH,wB];refine W.opsT (by kernel_rfl) ?_;simp only[wA,↓Qc,simprocAttr];have hfn:=fun g hg=>Qzu (g:=g) hg (S.last+1) 0;simp only[nwL] at hfn;refine W.done (Zg.ret rfl (Qi4 (frzG rfl) (frzG rfl) (frzG (hfn _ rfl)) rfl) ⟨_,_,rfl,?_,?_⟩)
     . rw[hd];have:=Qll (S:=S) (text:=text) (cs' :=[]) (by rw[h2];rfl);simp only[Jd,Zu,h1,h2,Zfo,Zhh,Zg2,Zff,nwL] at this⊢;exact this
     . rw[hd];exact⟨.nS,.nS,.nS,rfl,Qx.nil,Ql.nil,Y0.nil⟩
   . have hkn0:S.keys.length≠0:=fun e=>h1 (Zf7 e);have lg:∀g,Qaw Tryz.prog g 25 (.gS 1 12 (Jd S) S.keys.length 1)=some (.int .i64 S.keys.length):=fun g=>by simp only[Qaw,us]
     have a47:=fun g hg=>Qid (P:=Tryz.prog) (mt:=Qv.mt 20) (fr:=0) (dst:=some 47) (g:=g) (m:=1) (cs:=[.str text]) (x:= .iS [.str text] 1 true) (c0:=Jd S) (f:=1) (s:=12) (k:=S.keys.length) us sz9 Qhs zc9 rfl us rfl (by decide) (Jb (by omega) (by omega)) rfl hg;have a52:=fun g hg=>Qjt (P:=Tryz.prog) (mt:=Qv.mt 20) (fr:=0) (dst:=some 52) (g:=g) (m:=1) (cs:=[.bool true]) (x:= .iS [.bool true] 1 true) (c0:=Zu S) (f:=1) (s:=18) (k:=S.keys.length) ub sz4 Qig zc4 rfl ub rfl (by decide) (Jb (by omega) (by omega)) rfl rfl hg (by rw[Jz];omega);have hfn:=fun g hg=>Qzu (g:=g) hg (S.last+1) (S.keys.length:Int);have hpf:=fun g=>(Bd S.keys).2 g 8;have hlf:=fun g=>(Y9 S.keys).2 g 8;by_cases hl0:S.lines.length=0
     . have hl00:S.lines=[]:=Zf7 hl0;have a58:=fun g hg hg2=>(Qaj (P:=Tryz.prog) (mt:=Qv.mt 20) (fr:=0) (dst:=some 58) (g:=g) (m:=1) (x:= .mS 0 57 0 1 (some 1) 7) (cs:=[.int .i64 (S.last+1),.bool false,.int .i64 (S.last+1),.int .i64 0,.int .i64 (S.keys.length:Int),.nS,.mS 0 40 0 16 (some 16) 3]) u Qa2 Qbi Qkv rfl u (Qyc (g:=g) hg rfl) (by decide) (Jb (by decide) (by decide))).trans (Qcq (mt:=Qv.mt 20) (fr:=0) (d:=58) (g:=g) rfl hg2 rfl rfl);have et:twV 1 S S.lines.length=[.int .i64 S.last,.gS 1 12 (Jd S) S.keys.length 1,.mg 1 18 S.keys.length 1,.nS]:=by simp[twV,Qo,hl0]
       have ef:Bt 1 S (twV 1 S S.lines.length) cs' S.lines.length=[(2,.cells (twV 1 S S.lines.length)),(3,.cells (twV 1 S S.lines.length)),(12,.grow S.keys.length),(18,.mgrow (Zu S) S.keys.length)]:=by simp[Bt,hl0]
       rw[ef,et];simp only[wA,↓Qc,simprocAttr,zH,Ze,Qo,d1,wM,lg,a47,a52,a58,Qey,ro,hz16,us,ub,u,uo,m46,m51,m57,Qu,Qd2,Qck,Qf,Zm,Qj,Qy,Qn,Q3,Qh,Q4,Qi,s1,s2,s3,s4,V.pure,Zgp,ta,wH,wB];refine W.opsT (by kernel_rfl) ?_;simp only[wA,↓Qc,simprocAttr,zH,Ze,Qo,d1,wM,lg,a47,a52,a58,Qey,ro,hz16,us,ub,u,uo,m46,m51,m57,Qu,Qd2,Qck,Qf,Zm,Qj,Qy,Qn,Q3,Qh,Q4,Qi,s1,s2,s3,s4,V.pure,Zgp,ta,wH,wB];refine W.opsT (by kernel_rfl) ?_;simp only[wA,↓Qc,simprocAttr];simp only[nwL] at hfn;refine W.done (Zg.ret rfl (Qi4 (frzG (Qb2 (hpf _) rfl)) (Qls (cs:=Zu S++[.bool true]) rfl (by simp[Zu]) (Qb2 (hlf _) rfl)) (frzG (hfn _ rfl)) rfl) ⟨_,_,rfl,?_,?_⟩)
       . rw[hd];have:=Qll (S:=S) (text:=text) (cs' :=[]) (by rw[hl00];rfl);simp only[hl00,Zhh,Zg2,Zff,nwL] at this⊢;exact this
       . rw[hd];exact⟨.nS,.nS,.nS,rfl,Qx.nil,Ql.nil,Y0.nil⟩
     . obtain⟨et,ef⟩:=Qcu hl0 cs';rw[ef,et];have hl2:=h2.len;have a58:=fun g hg hg2=>Qjt (P:=Tryz.prog) (mt:=Qv.mt 20) (fr:=0) (dst:=some 58) (g:=g) (m:=1) (x:= .mS 0 57 0 1 (some 1) 7) (cs:=[.int .i64 (S.last+1),.bool false,.int .i64 (S.last+1),.int .i64 0,.int .i64 (S.keys.length:Int),.nS,.mS 0 40 0 16 (some 16) 3]) (c0:=cs') (f:=1) (s:=36) (k:=S.lines.length) u Qa2 Qbi Qkv rfl u (Qyc (g:=g) hg rfl) (by decide) (Jb (by omega) (by omega)) rfl rfl hg2 hl2;simp only[wA,↓Qc,simprocAttr,zH,Ze,Qo,twL,twG,d1,wM,lg,a47,a52,a58,Qey,ro,hz16,us,ub,u,uo,m46,m51,m57,Qu,Qd2,Qck,Qf,Zm,Qj,Qy,Qn,Q3,Qh,Q4,Qi,s1,s2,s3,s4,V.pure,Zgp,ta,wH,wB];refine W.opsT (by kernel_rfl) ?_;simp only[wA,↓Qc,simprocAttr,zH,Ze,Qo,twL,twG,d1,wM,lg,a47,a52,a58,Qey,ro,hz16,us,ub,u,uo,m46,m51,m57,Qu,Qd2,Qck,Qf,Zm,Qj,Qy,Qn,Q3,Qh,Q4,Qi,s1,s2,s3,s4,V.pure,Zgp,ta,wH,wB];refine W.opsT (by kernel_rfl) ?_;simp only[wA,↓Qc,simprocAttr];simp only[nwL] at hfn;have hcf:=fun g=>h2.scal.2.2.2 g 7;refine W.done (Zg.ret rfl (Qi4 (frzG (Qb2 (hpf _) rfl)) (Qls (cs:=Zu S++[.bool true]) rfl (by simp[Zu]) (Qb2 (hlf _) rfl)) (Qls (cs:=cs' ++[.int .i64 (S.last+1),.bool false,.int .i64 (S.last+1),.int .i64 0,.int .i64 (S.keys.length:Int),.nS,.mS 0 40 0 16 (some 16) 3]) rfl (by simp[hl2];omega) (Qb2 (hcf _) (hfn _ rfl))) rfl) ⟨_,_,rfl,?_,?_⟩)
       . rw[hd];exact Qll h2
       . rw[hd];exact⟨.nS,.nS,.nS,rfl,Qx.nil,Ql.nil,Y0.nil⟩
theorem Qzy{cs:List V}{o k:Nat}{ds:List V}(h:(cs.drop o).take k=ds){j:Nat}(hj:j<k):cs[o+j]?=ds[j]?:=by rw[<-h,Zfh,if_pos hj,Zhv]
theorem Qjn{cs:List V}{l:List (Int×Qe)}{j:Nat}{i:Int}{X:Qe}(h:Zy cs l)(hj:j<l.length)(hx:l[j]=(i,X)):cs[j*7+2]?=some (.int .i64 X.owner)/\cs[j*7+3]?=some (.int .i64 X.prev):=by have h1:=h.at_ j hj;rw[hx] at h1;obtain⟨nv,ov,oc,ns,he,_⟩:=h1;exact⟨Qzy he (by decide),Qzy he (by decide)⟩
set_option maxHeartbeats 8000000 in
theorem Q2a(pv lv hv:V)(cs:List V)(S:MSt)(h:HsR pv lv hv cs S)(kk:Nat)(ok:J1 S kk)(hkk:kk<=500)(hkn:S.keys.length<=kk)(c:Zc)(dv:V)(hc:Ye c dv)(hk:c.kind=4)(L:Qe)(hL:Zw S.lines c.a=some L):
 Fz Tryz.prog Qv 20 [.agg (Qo S.last pv lv hv),.agg (Qf c dv)] fun r=>∃hv' rv,r= .tuple [hv',rv]/\Ke hv' (Q2 S c).1/\Y4 rv (Q2 S c).2:=by
 refine Jx Tryz.func20 rfl ?_;have s1:=Qz h.p;have s2:=Qz h.l;have s3:=Qz h.h;have s4:=Qz hc.data;have p1:=Ql.pure h.p;have p2:=Ql.pure h.l;have p3:=Ql.pure h.h;have p4:=Ql.pure hc.data;have hln:S.lines.length<=500:=by have:=ok.cnt;omega
 have hl0:=ok.last0;have hl1:=ok.last1;have tc:=B1 pv lv hv cs S h kk ok (by omega) (by omega);have lh:=h.h.len Tryz.underlying48;have u:=Tryz.underlying48;simp only[wA,↓Qc,simprocAttr,Tryz.ntmps20,Qo,Qf,s1,s2,s3,s4,p1,p2,p3,p4,V.pure,Zgp,ta,wH,wB];refine W.call tc rfl rfl rfl rfl rfl ?_;obtain⟨j,hj,hjl,hpl⟩:=Y7 0 hL;rw[Zff] at hpl;have hn0:S.lines.length≠0:=by omega
 have okL:Q5 L:=ok.line hL;have hkey:L.key<S.keys.length:=ok.key _ (Zh hL);have hid1:1<=c.a:=ok.id0 _ (Zh hL);have hid2:c.a<=S.last:=ok.id1 _ (Zh hL);have hlx:=h.c.at_ j hj;rw[hjl] at hlx;obtain⟨nv,ov,oc,ns,he,hX⟩:=hlx;simp only at he hX;have ra:Zf Tryz.prog 81 cs ((j:Int).toNat*7)=some (.agg ((cs.drop (j*7)).take 7)):=by rw[Qj7,if_pos (by rw[h.c.len];have:(j:Int).toNat=j:=rfl;omega)];rfl
 rw[he] at ra;have atj:=h.h.at (k:= .i64) u Qa2 (by decide) (i:=(j:Int)) (by omega) (by omega);have x1:=Qz hX.n;have x2:=Qz hX.o;have x3:=Ql.pure hX.n;have x4:=Ql.pure hX.o;have c0:decide ((j:Int)<0)=false:=Zih (by omega);have wM:(IntKind.i64).wrap (S.last+1)=S.last+1:=by rw[wrap_i64]<;>omega
 obtain⟨kind,a,b,cc,name,as_,text,data⟩:=c;simp only at hk hL hpl hjl hid1 hid2 he ra;subst hk;rintro v H' (⟨h1,h2,_,_⟩|⟨h1,cs',h2,rfl,rfl⟩)
 . exact absurd (by rw[h2];rfl) hn0
 obtain⟨et,ef⟩:=Qcu hn0 cs';rw[ef,et];have hw:WF [[(4,.cells zH),(5,.cells Ze),(6,.cells (twL S S.last S.lines.length))],twG S (Zu S) cs' S.lines.length]:=by unfold WF twG twL;simp[Jj,Jt,O.refs,Zv,V.refs,zH,Ze,Bj,Bi,h2.scal.2.2.1,show Nat.ble 2 1=false from rfl]
 have ht:=fun d=>B3 hw (by simp) S.last cs S.lines s1 s2 h.h h.c (by omega) a d;rw[hpl] at ht;have hl2:=h2.len;have hlc:=Jz S;have hcf:=fun g=>h2.scal.2.2.2 g 7;have hpf:=fun g=>(Bd S.keys).2 g 8;have hlf:=fun g=>(Y9 S.keys).2 g 8;simp only[zH,Ze,Qo,twL,twG] at ht;cases hsn:L.snap with
 |true=>
  have hd:Q2 S ⟨4,a,b,cc,name,as_,text,data⟩=(S,Zl 202):=by simp[Q2,Yq,hL,hsn]
  simp only[wA,↓Qc,simprocAttr,hsn,zH,Ze,Qo,twL,twG,Qk,c0,wM,atj,↓ra,↓ht,x1,x2,x3,x4,Qf,Zm,Qj,Qy,Qn,Q3,Qh,Q4,Qi,s1,s2,s3,s4,V.pure,Zgp,ta,wH,wB];refine W.pcallT (Yf 202) rfl rfl rfl ?_;rintro _ rfl;simp only[wA,↓Qc,simprocAttr,Q7,zH,Ze,Qo,Qf,Zm,Qj,Qy,Qn,Q3,Qh,Q4,Qi,s1,s2,s3,s4,V.pure,Zgp,ta,wH,wB];refine W.opsT (by kernel_rfl) ?_;simp only[wA,↓Qc,simprocAttr];refine W.done (Zg.ret rfl (Z1 h _ 202) ⟨_,_,rfl,?_,?_⟩)
  . rw[hd];exact⟨pv,lv,hv,cs,rfl,h⟩
  . rw[hd];exact Zk 202
 |false=>
  have hwP:∀(ds:List V) (l:List (Int×Qe)),Zy ds l->WF [[(4,.cells zH),(5,.cells Ze),(6,.cells (twL S S.last S.lines.length)),(11,.cells (Qk a L.snap L.owner L.prev (L.key:Int) nv ov))],twG S (Zu S) ds S.lines.length]:=fun ds l hds=>by unfold WF twG twL;simp[Jj,Jt,O.refs,Zv,V.refs,zH,Ze,Qk,Ql.noRefs hX.n,Ql.noRefs hX.o,Bj,Bi,hds.scal.2.2.1,show Nat.ble 2 1=false from rfl]
  by_cases hp0:L.prev=0
  . have hd:Q2 S ⟨4,a,b,cc,name,as_,text,data⟩=(S,Zl 2):=by simp[Q2,Yq,hL,hsn,hp0]
    have e1:(L.prev==0)=true:=by simp[hp0]
    simp only[wA,↓Qc,simprocAttr,hsn,e1,zH,Ze,Qo,twL,twG,Qk,c0,wM,atj,↓ra,↓ht,x1,x2,x3,x4,Qf,Zm,Qj,Qy,Qn,Q3,Qh,Q4,Qi,s1,s2,s3,s4,V.pure,Zgp,ta,wH,wB];refine W.opsT (by kernel_rfl) ?_;simp only[wA,↓Qc,simprocAttr,hsn,e1,zH,Ze,Qo,twL,twG,Qk,c0,wM,atj,↓ra,↓ht,x1,x2,x3,x4,Qf,Zm,Qj,Qy,Qn,Q3,Qh,Q4,Qi,s1,s2,s3,s4,V.pure,Zgp,ta,wH,wB];refine W.pcallT (Yf 2) rfl rfl rfl ?_;rintro _ rfl;simp only[wA,↓Qc,simprocAttr,Q7,zH,Ze,Qo,Qf,Zm,Qj,Qy,Qn,Q3,Qh,Q4,Qi,s1,s2,s3,s4,V.pure,Zgp,ta,wH,wB];refine W.opsT (by kernel_rfl) ?_;simp only[wA,↓Qc,simprocAttr];refine W.done (Zg.ret rfl (Z1 h _ 2) ⟨_,_,rfl,?_,?_⟩)
    . rw[hd];exact⟨pv,lv,hv,cs,rfl,h⟩
    . rw[hd];exact Zk 2
  . have e1:(L.prev==0)=false:=by simp[hp0]
    obtain⟨X,hX1,hX2⟩:=ok.prevOf hL hp0;obtain⟨j2,hj2,hjl2,hpl2⟩:=Y7 0 hX1;rw[Zff] at hpl2;have hcell:=(Qjn h.c hj2 hjl2).1;have hcell' :cs[(j2:Int).toNat*7+2]?=some (.int .i64 X.owner):=hcell;have atj2:=h.h.at (k:= .i64) u Qa2 (by decide) (i:=(j2:Int)) (by omega) (by omega);have how:Qer S.lines L.prev=X.owner:=by rw[Qer,hX1];rfl
    have ht2:=fun d=>B3 (hwP cs' S.lines h2) (by simp) S.last cs S.lines s1 s2 h.h h.c (by omega) L.prev d;rw[hpl2] at ht2;simp only[zH,Ze,Qo,twL,twG,Qk,hsn] at ht2;by_cases ho:X.owner=a
    . have hd:Q2 S ⟨4,a,b,cc,name,as_,text,data⟩=(S,Zl 2):=by simp[Q2,Yq,hL,hsn,how,ho]
      have e2:(X.owner==a)=true:=by simp[ho]
      simp only[wA,↓Qc,simprocAttr,hsn,e1,↓ht2,atj2,hcell',hcell,e2,zH,Ze,Qo,twL,twG,Qk,c0,wM,atj,↓ra,↓ht,x1,x2,x3,x4,Qf,Zm,Qj,Qy,Qn,Q3,Qh,Q4,Qi,s1,s2,s3,s4,V.pure,Zgp,ta,wH,wB];refine W.opsT (by kernel_rfl) ?_;simp only[wA,↓Qc,simprocAttr,hsn,e1,e2,zH,Ze,Qo,twL,twG,Qk,c0,wM,atj,↓ra,↓ht,x1,x2,x3,x4,Qf,Zm,Qj,Qy,Qn,Q3,Qh,Q4,Qi,s1,s2,s3,s4,V.pure,Zgp,ta,wH,wB];refine W.pcallT (Yf 2) rfl rfl rfl ?_;rintro _ rfl;simp only[wA,↓Qc,simprocAttr,Q7,zH,Ze,Qo,Qf,Zm,Qj,Qy,Qn,Q3,Qh,Q4,Qi,s1,s2,s3,s4,V.pure,Zgp,ta,wH,wB];refine W.opsT (by kernel_rfl) ?_;simp only[wA,↓Qc,simprocAttr];refine W.done (Zg.ret rfl (Z1 h _ 2) ⟨_,_,rfl,?_,?_⟩)
      . rw[hd];exact⟨pv,lv,hv,cs,rfl,h⟩
      . rw[hd];exact Zk 2
    . have hd:Q2 S ⟨4,a,b,cc,name,as_,text,data⟩=({S with lines:=Yz X.owner a (L.prev.toNat+1) S.lines L.prev},Zl 0):=by simp[Q2,Yq,hL,hsn,how,ho,hp0]
      have e2:(X.owner==a)=false:=by simp[ho]
      simp only[wA,↓Qc,simprocAttr,hsn,e1,↓ht2,atj2,hcell',hcell,e2,zH,Ze,Qo,twL,twG,Qk,c0,wM,atj,↓ra,↓ht,x1,x2,x3,x4,Qf,Zm,Qj,Qy,Qn,Q3,Qh,Q4,Qi,s1,s2,s3,s4,V.pure,Zgp,ta,wH,wB];refine W.opsT (by kernel_rfl) ?_;simp only[wA,↓Qc,simprocAttr,hsn,e1,↓ht2,atj2,hcell',hcell,e2,zH,Ze,Qo,twL,twG,Qk,c0,wM,atj,↓ra,↓ht,x1,x2,x3,x4,Qf,Zm,Qj,Qy,Qn,Q3,Qh,Q4,Qi,s1,s2,s3,s4,V.pure,Zgp,ta,wH,wB];refine W.opsT (by kernel_rfl) ?_;simp only[wA,↓Qc,simprocAttr,hsn,zH,Ze,Qo,twL,twG,Qk,c0,wM,atj,↓ra,↓ht,x1,x2,x3,x4,Qf,Zm,Qj,Qy,Qn,Q3,Qh,Q4,Qi,s1,s2,s3,s4,V.pure,Zgp,ta,wH,wB];generalize hwas:X.owner=was at*;refine W.ul ?_;refine W.loopS (kt:=[3,4,5,6,14,15]) rfl (fun q:Nat×List (Int×Qe)×Int×List V=>Qzr (.iptr [.int .u8 4,.int .i64 a,.int .i64 b,.int .i64 cc,.str name,.str as_,.str text,dv] 0) (.ptr 0 4 0) (.ptr 0 5 0) (.ptr 0 6 0) (.int .i64 was) (.int .i64 q.2.2.1)) (fun q=>[[(4,.cells zH),(5,.cells Ze),(6,.cells (twL S S.last S.lines.length)),(11,.cells (Qk a L.snap L.owner L.prev (L.key:Int) nv ov))],twG S (Zu S) q.2.2.2 S.lines.length])
       (fun q=>Zy q.2.2.2 q.2.1/\q.2.1.length=S.lines.length/\J1 {S with lines:=q.2.1} kk/\(q.2.2.1=0\/∃Y,Zw q.2.1 q.2.2.1=some Y/\Y.snap=true)/\q.2.2.1.toNat<q.1/\Yz was a q.1 q.2.1 q.2.2.1=Yz was a (L.prev.toNat+1) S.lines L.prev) (fun q=>q.2.2.1.toNat) ?_ (L.prev.toNat+1,S.lines,L.prev,cs') ⟨h2,rfl,ok,.inr ⟨X,hX1,hX2⟩,by simp,rfl⟩ rfl (by simp[hsn,zH,Ze,twL,twG,Qk])
      rintro⟨k,l,i,ds⟩ ⟨hds,hlen,okl,hi,hik,hpr⟩;simp only at hds hlen okl hi hik hpr⊢;simp only[Qzr];obtain⟨k',rfl⟩:∃k',k=k' +1:=⟨k-1,by omega⟩;have hdl:=hds.len;rw[hlen] at hdl;have fin:Yz was a (k' +1) l i=l->∃hv' rv,(V.tuple [.agg (Qo S.last (.iS (Jd S) S.keys.length false) (.iS (Zu S) S.keys.length false) (.iS ds S.lines.length false)),Q7 0])= .tuple [hv',rv]/\Ke hv' (Q2 S ⟨4,a,b,cc,name,as_,text,data⟩).1/\Y4 rv (Q2 S ⟨4,a,b,cc,name,as_,text,data⟩).2:=fun hf=>by
       refine⟨_,_,rfl,?_,?_⟩
       . rw[hd,<-hpr,hf];have:=Qbx (S:=S) (made:=S.last) hds;rw[hlen] at this;exact this
       . rw[hd];exact Zk 0
      have hE:=fun g h18 h36=>Qbv (g:=g) (made:=S.last) (pc:=Jd S) (lc:=Zu S) (cs:=ds) (cs2:=ds) (a:=S.keys.length) (b:=S.keys.length) (n:=S.lines.length) (rv:=Q7 0) (rv' :=Q7 0) (hpf _) (hlf _) (hds.scal.2.2.2 _ 7) (by simp[Zu]) hdl h18 h36 rfl;by_cases hi0:i=0
      . subst hi0;simp only[wA,↓Qc,simprocAttr,zH,Ze,twL,twG,zH,Ze,Qo,twL,twG,Qk,c0,wM,atj,↓ra,↓ht,x1,x2,x3,x4,Qf,Zm,Qj,Qy,Qn,Q3,Qh,Q4,Qi,s1,s2,s3,s4,V.pure,Zgp,ta,wH,wB];refine W.opsT (by kernel_rfl) ?_;simp only[wA,↓Qc,simprocAttr];refine W.done ?_;simp only[wA,↓Qc,simprocAttr,Q7,zH,Ze,twL,twG,zH,Ze,Qo,twL,twG,Qk,c0,wM,atj,↓ra,↓ht,x1,x2,x3,x4,Qf,Zm,Qj,Qy,Qn,Q3,Qh,Q4,Qi,s1,s2,s3,s4,V.pure,Zgp,ta,wH,wB];exact W.done (Zg.ret rfl (hE _ rfl rfl) (fin (by simp[Yz])))
      . rcases hi with hi|⟨Y,hY1,hY2⟩
        . exact absurd hi hi0
        have n1:(i !=0)=true:=by simp[hi0]
        obtain⟨j3,hj3,hjl3,hpl3⟩:=Y7 0 hY1;rw[Zff] at hpl3;have hc3:=(Qjn hds hj3 hjl3).1;have hj3' :j3<S.lines.length:=by omega
        have ial:=ia_L (S:=S) hj3';have ht3:=fun d=>Qwi (f:=1) (s:=36) (pv:= .gS 1 12 (Jd S) S.keys.length 1) (lv:= .mg 1 18 S.keys.length 1) (hwP ds l hds) (by simp) S.last ds l rfl rfl (by decide) (by rw[hlen];rfl) hds (by omega) i d;rw[hpl3,hlen] at ht3;simp only[zH,Ze,Qo,twL,twG,Qk,hsn] at ht3;by_cases hw1:Y.owner=was
        . have n2:(Y.owner==was)=true:=by simp[hw1]
          have Qs:=Qea (L' :={Y with owner:=a}) okl.uniq hj3 (by rw[hjl3]);have hxx:=hds.at_ j3 hj3;rw[hjl3] at hxx;have hf:=hds.field (o:=2) (v:= .int .i64 a) hj3 (by decide) ((Qwh hxx).2 a);rw[<-Qs] at hf;have ok2:J1 {S with lines:=putL l i {Y with owner:=a}} kk:=okl.putL hY1 ((okl.line hY1).owner a) rfl rfl rfl;have hl3:(putL l i {Y with owner:=a}).length=S.lines.length:=by rw[Qs,Zg0,hlen]
          have hY3:Zw (putL l i {Y with owner:=a}) i=some {Y with owner:=a}:=by rw[Qeh,hY1];simp
          have hfl:(List.take (j3*7+2) ds++[V.int .i64 a]++List.drop (j3*7+2+1) ds).length=S.lines.length*7:=by have:=hf.len;rw[hl3] at this;exact this
          have c7:j3*7+2+1<=S.lines.length*7:=by omega
          obtain⟨j4,hj4,hjl4,hpl4⟩:=Y7 0 hY3;rw[Zff] at hpl4;have hc4:=(Qjn hf hj4 hjl4).2;have hc4' :(List.take (j3*7+2) ds++[V.int .i64 a]++List.drop (j3*7+2+1) ds)[j4*7+3]?=some (.int .i64 Y.prev):=hc4;have ial4:=ia_L (S:=S) (n:=S.lines.length) (j:=j4) (by omega);have ht4:=fun d=>Qwi (f:=1) (s:=36) (pv:= .gS 1 12 (Jd S) S.keys.length 1) (lv:= .mg 1 18 S.keys.length 1) (hwP _ _ hf) (by simp) S.last (splice ds (j3*7+2) [V.int .i64 a]) (putL l i {Y with owner:=a}) rfl rfl (by decide) (by rw[hl3];rfl) hf (by omega) i d;rw[hpl4,hl3] at ht4;simp only[zH,Ze,Qo,twL,twG,Qk,hsn,splice,Zgz,Zg2,Zff] at ht4;have hds2:=okl.desc (i,Y) (Zh hY1) hY2;simp only at hds2;have hds3:=okl.id0 (i,Y) (Zh hY1);simp only at hds3;simp only[wA,↓Qc,simprocAttr,n1,n2,hsn,↓ht3,ial,hc3,zH,Ze,twL,twG,zH,Ze,Qo,twL,twG,Qk,c0,wM,atj,↓ra,↓ht,x1,x2,x3,x4,Qf,Zm,Qj,Qy,Qn,Q3,Qh,Q4,Qi,s1,s2,s3,s4,V.pure,Zgp,ta,wH,wB];refine W.opsT (by kernel_rfl) ?_;simp only[wA,↓Qc,simprocAttr,n1,n2,hsn,↓ht3,ial,c7,hdl,zH,Ze,twL,twG,zH,Ze,Qo,twL,twG,Qk,c0,wM,atj,↓ra,↓ht,x1,x2,x3,x4,Qf,Zm,Qj,Qy,Qn,Q3,Qh,Q4,Qi,s1,s2,s3,s4,V.pure,Zgp,ta,wH,wB];refine W.opsT (by kernel_rfl) ?_;simp only[wA,↓Qc,simprocAttr,hsn,↓ht4,ial4,hc4',zH,Ze,twL,twG,zH,Ze,Qo,twL,twG,Qk,c0,wM,atj,↓ra,↓ht,x1,x2,x3,x4,Qf,Zm,Qj,Qy,Qn,Q3,Qh,Q4,Qi,s1,s2,s3,s4,V.pure,Zgp,ta,wH,wB];refine W.opsT (by kernel_rfl) ?_;simp only[wA,↓Qc,simprocAttr];refine W.done ⟨(k',putL l i {Y with owner:=a},Y.prev,splice ds (j3*7+2) [V.int .i64 a]),rfl,by simp[hsn,zH,Ze,twL,twG,Qk,splice],⟨hf,hl3,ok2,?_,by simp only;omega,?_⟩,by simp only;omega⟩
          . by_cases h7:Y.prev=0
            . exact .inl h7
            . obtain⟨z,hz1,hz2⟩:=ok2.prevOf (L:={Y with owner:=a}) hY3 h7;exact .inr ⟨z,hz1,hz2⟩
          . rw[<-hpr];simp only[Yz,hi0,if_false,hY1,hw1,if_true]
        . have n2:(Y.owner==was)=false:=by simp[hw1]
          simp only[wA,↓Qc,simprocAttr,n1,n2,hsn,↓ht3,ial,hc3,zH,Ze,twL,twG,zH,Ze,Qo,twL,twG,Qk,c0,wM,atj,↓ra,↓ht,x1,x2,x3,x4,Qf,Zm,Qj,Qy,Qn,Q3,Qh,Q4,Qi,s1,s2,s3,s4,V.pure,Zgp,ta,wH,wB];refine W.opsT (by kernel_rfl) ?_;simp only[wA,↓Qc,simprocAttr,n1,n2];refine W.done ?_;simp only[wA,↓Qc,simprocAttr,Q7,zH,Ze,twL,twG,zH,Ze,Qo,twL,twG,Qk,c0,wM,atj,↓ra,↓ht,x1,x2,x3,x4,Qf,Zm,Qj,Qy,Qn,Q3,Qh,Q4,Qi,s1,s2,s3,s4,V.pure,Zgp,ta,wH,wB];exact W.done (Zg.ret rfl (hE _ rfl rfl) (fin (by simp[Yz,hi0,hY1,hw1])))
theorem Qxi(pv lv hv:V)(cs:List V)(S:MSt)(h:HsR pv lv hv cs S)(kk:Nat)(ok:J1 S kk)(hkk:kk<=500)(hkn:S.keys.length<=kk)(hri:(Mod.ids S.lines).Pairwise (· < ·))(c:Zc)(dv:V)(hc:Ye c dv)(hk:Qak c.kind=true):
 Fz Tryz.prog Qv 20 [.agg (Qo S.last pv lv hv),.agg (Qf c dv)] fun r=>∃hv' rv,r= .tuple [hv',rv]/\Ke hv' (Q2 S c).1/\Y4 rv (Q2 S c).2:=by
 have hk2:c.kind=1\/c.kind=19\/c.kind=21\/c.kind=2\/c.kind=3\/c.kind=4\/c.kind=5\/c.kind=6\/c.kind=7\/c.kind=8\/c.kind=20:=by simp only[Qak,Zgj,decide_eq_true_eq] at hk;omega
 by_cases k1:c.kind=1
 . exact Q1x pv lv hv cs S h kk ok hkk hkn c dv hc k1
 by_cases k2:c.kind=19
 . exact Qxe pv lv hv cs S h kk ok hkk hkn hri c dv hc k2
 by_cases k3:c.kind=21
 . exact Qw2 pv lv hv cs S h kk ok hkk hkn c dv hc k3
 cases hL:Zw S.lines c.a with
 |none=>exact Qsi pv lv hv cs S h kk ok hkk hkn c dv hc ⟨k1,k2,k3,hk⟩ hL
 |some L=>
  rcases hk2 with k|k|k|k|k|k|k|k|k|k|k
  . exact absurd k k1
  . exact absurd k k2
  . exact absurd k k3
  . exact Q0f pv lv hv cs S h kk ok hkk hkn c dv hc k L hL
  . exact Q1c pv lv hv cs S h kk ok hkk hkn c dv hc k L hL
  . exact Q2a pv lv hv cs S h kk ok hkk hkn c dv hc k L hL
  . exact Q17 pv lv hv cs S h kk ok hkk hkn c dv hc k L hL
  . exact Q1d pv lv hv cs S h kk ok hkk hkn c dv hc k L hL
  . exact Q1t pv lv hv cs S h kk ok hkk hkn c dv hc k L hL
  . exact Q1b pv lv hv cs S h kk ok hkk hkn c dv hc k L hL
  . exact Qyy pv lv hv cs S h kk ok hkk hkn c dv hc k L hL
theorem Q14{l:List (Int×Qe)}{a:Int}{L:Qe}(h:Zw l a=some L):putL l a L=l:=by
 induction l with
 |nil=>rfl
 |cons p l ih=>
  simp only[Zw] at h;simp only[putL];by_cases e:a=p.1
  . rw[if_pos e] at h⊢;injection h with h;rw[<-h]
  . rw[if_neg e] at h⊢;rw[ih h]
theorem len4{α:Type}{l:List α}(h:l.length=4):∃a b c d,l=[a,b,c,d]:=by
 match l,h with
 |[a,b,c,d],_=>exact⟨a,b,c,d,rfl⟩
theorem Ql8{α:Type}{l:List α}(h:l.length=10):∃a b c d e f g i j k,l=[a,b,c,d,e,f,g,i,j,k]:=by
 match l,h with
 |[a,b,c,d,e,f,g,i,j,k],_=>exact⟨a,b,c,d,e,f,g,i,j,k,rfl⟩
def DoR(S:MSt)(c:Zc)(r:V):Prop:=∃hv' rv,r= .tuple [hv',rv]/\Ke hv' (Z0 S c).1/\Y4 rv (Z0 S c).2
theorem Qm4{v:V}{S:MSt}(h:Ke v S)(g:Get):frz g 11 v=some v/\∃xs,v= .agg xs/\xs.length=4/\xs.all V.scalar=true:=by obtain⟨pv,lv,hv,cs,rfl,h⟩:=h;refine⟨Kn h.p h.l h.h g 9,_,rfl,rfl,?_⟩;simp only[Qo,Zht,Qz h.p,Qz h.l,Qz h.h];rfl
theorem Qag{v:V}{r:Zi}(h:Y4 v r)(g:Get):frz g 11 v=some v/\∃xs,v= .agg xs/\xs.length=10/\xs.all V.scalar=true:=by
 obtain⟨dv,nv,lv,rfl,h1,h2,h3⟩:=h;have f1:=Ql.frz' h1 g 9;have f2:=Ql.frz' h2 g 9;have f3:=Ql.frz' h3 g 9;refine⟨?_,_,rfl,rfl,?_⟩
 . show(frzL (frz g 10) _).map V.agg=_;simp only[frzL,f1,f2,f3];rfl
 . simp only[Zht,Qz h1,Qz h2,Qz h3];rfl
theorem Qf0{x y:V}(g:Get)(h1:frz g 11 x=some x)(h2:frz g 11 y=some y):frz g depth (.tuple [x,y])=some (.tuple [x,y]):=by show(frzL (frz g 11) _).map V.tuple=_;simp only[frzL,h1,h2];rfl
theorem Qvy(ln:List V)(hln:∀p,Zv p ln=false)(pv lv hv:V)(cs:List V)(S:MSt)(h:HsR pv lv hv cs S)(k:Nat)(ok:J1 S k)(hk:S.keys.length<=1000)(hl:S.lines.length<=1000)(hn:S.lines.length≠0):
 CR Tryz.prog Qv 25 [.agg (Qo S.last pv lv hv)] [[(4,.cells zH),(5,.cells Ze),(7,.cells ln)]] fun v H' =>∃cs',Zy cs' S.lines/\v= .agg (twL S S.last S.lines.length)/\H' =[[(4,.cells zH),(5,.cells Ze),(7,.cells ln)],twG S (Zu S) cs' S.lines.length]:=by
 refine(Qvf [(4,.cells zH),(5,.cells Ze),(7,.cells ln)] (fun p=>by simp[Jt,O.refs,hln,zH,Ze,Zv,V.refs]) pv lv hv cs S h k ok hk hl).mono ?_;rintro r H' (⟨h1,h2,rfl,rfl⟩|⟨h1,cs',h2,rfl,rfl⟩)
 . exact absurd (by rw[h2];rfl) hn
 . obtain⟨et,ef⟩:=Qcu hn cs';exact⟨_,rfl,cs',h2,by rw[et],by rw[ef]⟩
theorem Qip(L:Qe)(c:Zc)(o:Int):(Z6 L c o).snap=L.snap/\(Z6 L c o).owner=L.owner/\(Z6 L c o).prev=L.prev/\(Z6 L c o).key=L.key:=by
 unfold Z6 Qe.setOb
 repeat' split
 all_goals exact⟨rfl,rfl,rfl,rfl⟩
set_option maxHeartbeats 8000000 in
theorem Do_fz(pv lv hv:V)(cs:List V)(S:MSt)(h:HsR pv lv hv cs S)(kk:Nat)(ok:J1 S kk)(hkk:kk<=500)(hkn:S.keys.length<=kk)(hri:(Mod.ids S.lines).Pairwise (· < ·))(c:Zc)(dv:V)(hc:Ye c dv):
 Fz Tryz.prog Qv 11 [.agg (Qo S.last pv lv hv),.agg (Qf c dv)] (DoR S c):=by
 refine Jx Tryz.func11 rfl ?_;have s1:=Qz h.p;have s2:=Qz h.l;have s3:=Qz h.h;have s4:=Qz hc.data;have p1:=Ql.pure h.p;have p2:=Ql.pure h.l;have p3:=Ql.pure h.h;have p4:=Ql.pure hc.data;have hln:S.lines.length<=500:=by have:=ok.cnt;omega
 have u:=Tryz.underlying48;have hfh:=fun(g:Get)=>Kn (made:=S.last) h.p h.l h.h g 10;have hfc:=Qt7 (c:=c) hc.data;have told_end:∀e:Int,Z0 S c=(S,Zl e)->DoR S c (.tuple [.agg (Qo S.last pv lv hv),Q7 e]):=fun e he=>⟨_,_,rfl,by rw[he];exact⟨pv,lv,hv,cs,rfl,h⟩,by rw[he];exact Zk e⟩;simp only[wA,↓Qc,simprocAttr,Tryz.ntmps11,Qo,Qf,s1,s2,s3,s4,p1,p2,p3,p4,V.pure,Zgp,ta,wH,wB];by_cases hA:c.kind<1\/c.kind>21
 . have hd:Z0 S c=(S,Zl 2):=by
    have e1:Qak c.kind=false:=by simp only[Qak,Zf5,decide_eq_false_iff_not];omega
    have e2:Qfp c.kind=false:=by simp only[Qfp,decide_eq_false_iff_not];omega
    simp[Z0,e1,e2]
   by_cases hA1:c.kind<1
   . have d1:decide (c.kind<1)=true:=Zig hA1;simp only[wA,↓Qc,simprocAttr,d1,Qk,Qf,Zm,Qj,Qy,Qn,Q3,Qh,Q4,Qi,s1,s2,s3,s4,V.pure,Zgp,ta,wH,wB];refine W.pcallT (Yf 2) rfl rfl rfl ?_;rintro _ rfl;simp only[wA,↓Qc,simprocAttr,Q7,Qk,Qf,Zm,Qj,Qy,Qn,Q3,Qh,Q4,Qi,s1,s2,s3,s4,V.pure,Zgp,ta,wH,wB];refine W.opsT (by kernel_rfl) ?_;simp only[wA,↓Qc,simprocAttr];exact W.done (Zg.ret rfl (Z1 h _ 2) (told_end 2 (hd)))
   . have d1:decide (c.kind<1)=false:=Zih hA1;have d2:decide (c.kind>21)=true:=Zig (by omega);simp only[wA,↓Qc,simprocAttr,d1,d2,Qk,Qf,Zm,Qj,Qy,Qn,Q3,Qh,Q4,Qi,s1,s2,s3,s4,V.pure,Zgp,ta,wH,wB];refine W.pcallT (Yf 2) rfl rfl rfl ?_;rintro _ rfl;simp only[wA,↓Qc,simprocAttr,Q7,Qk,Qf,Zm,Qj,Qy,Qn,Q3,Qh,Q4,Qi,s1,s2,s3,s4,V.pure,Zgp,ta,wH,wB];refine W.opsT (by kernel_rfl) ?_;simp only[wA,↓Qc,simprocAttr];exact W.done (Zg.ret rfl (Z1 h _ 2) (told_end 2 (hd)))
 . have d1:decide (c.kind<1)=false:=Zih (by omega);have d2:decide (c.kind>21)=false:=Zih (by omega);by_cases hB:c.kind<9\/c.kind>18
   . have hIH:Qak c.kind=true:=by simp only[Qak,Zgj,decide_eq_true_eq];omega
     have hd:Z0 S c=Q2 S c:=by rw[Z0,hIH];rfl
     have hoh:=Qxi pv lv hv cs S h kk ok hkk hkn hri c dv hc hIH;have endO:∀r:V,(∃hv' rv,r= .tuple [hv',rv]/\Ke hv' (Q2 S c).1/\Y4 rv (Q2 S c).2)->∃xs ys,r=V.tuple [.agg xs,.agg ys]/\xs.length=4/\ys.length=10/\xs.all V.scalar=true/\ys.all V.scalar=true/\(∀g,frz g depth (.tuple [.agg xs,.agg ys])=some (.tuple [.agg xs,.agg ys]))/\DoR S c (.tuple [.agg xs,.agg ys]):=by rintro r ⟨hv',rv,rfl,hH,hR⟩;obtain⟨_,xs,rfl,x1,x2⟩:=Qm4 hH (fun _ _=>none);obtain⟨_,ys,rfl,y1,y2⟩:=Qag hR (fun _ _=>none);exact⟨xs,ys,rfl,x1,y1,x2,y2,fun g=>Qf0 g (Qm4 hH g).1 (Qag hR g).1,⟨_,_,rfl,by rw[hd];exact hH,by rw[hd];exact hR⟩⟩
     by_cases hB1:c.kind<9
     . have d3:decide (c.kind<9)=true:=Zig hB1;simp only[wA,↓Qc,simprocAttr,d1,d2,d3,Qk,Qf,Zm,Qj,Qy,Qn,Q3,Qh,Q4,Qi,s1,s2,s3,s4,V.pure,Zgp,ta,wH,wB];refine W.pcall hoh rfl rfl (Qt (hfh _) (Qt hfc rfl)) ?_;intro r hr;obtain⟨xs,ys,rfl,x1,y1,x2,y2,hz,hR⟩:=endO r hr;obtain⟨u0,u1,u2,u3,rfl⟩:=len4 x1;obtain⟨w0,w1,w2,w3,w4,w5,w6,w7,w8,w9,rfl⟩:=Ql8 y1;simp only[wA,↓Qc,simprocAttr,x1,y1,x2,y2,Qk,Qf,Zm,Qj,Qy,Qn,Q3,Qh,Q4,Qi,s1,s2,s3,s4,V.pure,Zgp,ta,wH,wB];refine W.done (Zg.ret rfl (hz _) hR)
     . have d3:decide (c.kind<9)=false:=Zih hB1;have d4:decide (c.kind>18)=true:=Zig (by omega);simp only[wA,↓Qc,simprocAttr,d1,d2,d3,d4,Qk,Qf,Zm,Qj,Qy,Qn,Q3,Qh,Q4,Qi,s1,s2,s3,s4,V.pure,Zgp,ta,wH,wB];refine W.pcall hoh rfl rfl (Qt (hfh _) (Qt hfc rfl)) ?_;intro r hr;obtain⟨xs,ys,rfl,x1,y1,x2,y2,hz,hR⟩:=endO r hr;obtain⟨u0,u1,u2,u3,rfl⟩:=len4 x1;obtain⟨w0,w1,w2,w3,w4,w5,w6,w7,w8,w9,rfl⟩:=Ql8 y1;simp only[wA,↓Qc,simprocAttr,x1,y1,x2,y2,Qk,Qf,Zm,Qj,Qy,Qn,Q3,Qh,Q4,Qi,s1,s2,s3,s4,V.pure,Zgp,ta,wH,wB];refine W.done (Zg.ret rfl (hz _) hR)
   . have d3:decide (c.kind<9)=false:=Zih (by omega);have d4:decide (c.kind>18)=false:=Zih (by omega);have hkl:9<=c.kind/\c.kind<=18:=by omega
     have e1:Qak c.kind=false:=by simp only[Qak,Zf5,decide_eq_false_iff_not];omega
     have e2:Qfp c.kind=true:=by simp only[Qfp,decide_eq_true_eq];omega
     have hd0:Z0 S c=match Zw S.lines c.a with
      |none=>(S,Zl 6)
      |some L=>if !(S.keyOf L).loaded then(S,Zl 200) else if c.kind≠18/\Kh c.name≠0 then(S,Zl 240) else
       ({S with lines:=putL S.lines c.a (Kx c.kind L c).1},(Kx c.kind L c).2):=by rw[Z0,e1,e2];rfl
     have hat:=at_fz S.last pv lv hv (Jd S) (Zu S) cs S.keys.length S.keys.length (Mod.ids S.lines) h.p h.l (by rw[Qaz];exact h.h) h.c.ids (by rw[Qaz];omega) c.a;simp only[wA,↓Qc,simprocAttr,d1,d2,d3,d4,Qk,Qf,Zm,Qj,Qy,Qn,Q3,Qh,Q4,Qi,s1,s2,s3,s4,V.pure,Zgp,ta,wH,wB];refine W.pcall hat rfl rfl (Qt (hfh _) rfl) ?_;rintro _ rfl;cases hL:Zw S.lines c.a with
     |none=>
      rw[hL] at hd0;rw[Qju 0 hL];simp only[wA,↓Qc,simprocAttr,Qk,Qf,Zm,Qj,Qy,Qn,Q3,Qh,Q4,Qi,s1,s2,s3,s4,V.pure,Zgp,ta,wH,wB];refine W.pcallT (Yf 6) rfl rfl rfl ?_;rintro _ rfl;simp only[wA,↓Qc,simprocAttr,Q7,Qk,Qf,Zm,Qj,Qy,Qn,Q3,Qh,Q4,Qi,s1,s2,s3,s4,V.pure,Zgp,ta,wH,wB];refine W.opsT (by kernel_rfl) ?_;simp only[wA,↓Qc,simprocAttr];exact W.done (Zg.ret rfl (Z1 h _ 6) (told_end 6 (hd0)))
     |some L=>
      rw[hL] at hd0;simp only at hd0;obtain⟨j,hj,hjl,hpl⟩:=Y7 0 hL;rw[Zff] at hpl;rw[hpl];have okL:Q5 L:=ok.line hL;have hkey:L.key<S.keys.length:=ok.key _ (Zh hL);have hlx:=h.c.at_ j hj;rw[hjl] at hlx;obtain⟨nv,ov,oc,ns,he,hX⟩:=hlx;simp only at he hX;have ra:Zf Tryz.prog 81 cs ((j:Int).toNat*7)=some (.agg ((cs.drop (j*7)).take 7)):=by rw[Qj7,if_pos (by rw[h.c.len];have:(j:Int).toNat=j:=rfl;omega)];rfl
      rw[he] at ra;have atj:=h.h.at (k:= .i64) u Qa2 (by decide) (i:=(j:Int)) (by omega) (by omega);have x1:=Qz hX.n;have x2:=Qz hX.o;have x3:=Ql.pure hX.n;have x4:=Ql.pure hX.o;have c0:decide ((j:Int)<0)=false:=Zih (by omega);have atl:=h.l.at (k:= .i64) Tryz.underlying47 sz4 (by decide) (i:=(L.key:Int)) (by omega) (by omega);have la:=Qte hkey;have la1:(Zu S)[(L.key:Int).toNat]?=some (.bool (S.keyOf L).loaded):=la;have la2:(Zu S)[(L.key:Int).toNat*1]?=some (.bool (S.keyOf L).loaded):=by rw[Zgd];exact la
      have hlf:=Qbb (id:=c.a) (sn:=L.snap) (ow:=L.owner) (pr:=L.prev) (ky:=(L.key:Int)) hX.n hX.o;cases hlo:(S.keyOf L).loaded with
      |false=>
       rw[hlo] at la la1 la2 hd0;simp only[wA,↓Qc,simprocAttr,c0,atj,↓ra,atl,la,la1,la2,x1,x2,Qk,Qf,Zm,Qj,Qy,Qn,Q3,Qh,Q4,Qi,s1,s2,s3,s4,V.pure,Zgp,ta,wH,wB];refine W.pcallT (Yf 200) rfl rfl rfl ?_;rintro _ rfl;simp only[wA,↓Qc,simprocAttr,Q7,Qk,Qf,Zm,Qj,Qy,Qn,Q3,Qh,Q4,Qi,s1,s2,s3,s4,V.pure,Zgp,ta,wH,wB];refine W.opsT (by kernel_rfl) ?_;simp only[wA,↓Qc,simprocAttr];exact W.done (Zg.ret rfl (Z1 h _ 200) (told_end 200 (hd0)))
      |true=>
       rw[hlo] at la la1 la2 hd0;simp only[Zhf,Ze7,if_false] at hd0;have hask:=Q2w c.a (L.key:Int) nv ov oc ns L hX okL c dv hc hkl;have hll:=Q5o okL c hkl;have hpu:=Q14 hL;have hsame:∀r:Zi,({S with lines:=putL S.lines c.a L},r)=(S,r):=fun r=>by rw[hpu]
       by_cases h18:c.kind=18
       . have e18:(c.kind !=18)=false:=by simp[h18]
         have hd1:Z0 S c=({S with lines:=putL S.lines c.a (Z9 L c).1},(Z9 L c).2):=by rw[hd0,if_neg (by simp[h18]),hll]
         simp only[wA,↓Qc,simprocAttr,c0,atj,↓ra,atl,la,la1,la2,x1,x2,e18,Qk,Qf,Zm,Qj,Qy,Qn,Q3,Qh,Q4,Qi,s1,s2,s3,s4,V.pure,Zgp,ta,wH,wB];refine W.pcall hask rfl rfl (Qt hlf (Qt hfc rfl)) ?_;rintro _ rfl;by_cases hE:(Q6 L c).2=0
         . have hE2:((Q6 L c).2 !=0)=false:=by simp[hE]
           by_cases hlk:c.kind=14\/c.kind=17\/c.kind=18
           . have hlook:=Qr5 c.a (L.key:Int) nv ov oc ns L hX okL c dv hc hkl hlk hE;have hd2:Z0 S c=(S,Bs L c (Q6 L c).1):=by
              rw[hd1];unfold Z9;rw[if_neg (by simp[hE]),if_pos hlk];exact hsame _
             by_cases k14:c.kind=14
             . have q1:(c.kind==14)=true:=by simp[k14]
               simp only[wA,↓Qc,simprocAttr,hE2,q1,x1,x2,Qk,Qf,Zm,Qj,Qy,Qn,Q3,Qh,Q4,Qi,s1,s2,s3,s4,V.pure,Zgp,ta,wH,wB];refine W.pcallT hlook rfl rfl (Qt hlf (Qt hfc (Qt rfl rfl))) ?_;intro rv hrv;obtain⟨_,ys,rfl,y1,y2⟩:=Qag hrv (fun _ _=>none);obtain⟨w0,w1,w2,w3,w4,w5,w6,w7,w8,w9,rfl⟩:=Ql8 y1;simp only[wA,↓Qc,simprocAttr,y1,y2,x1,x2,Qk,Qf,Zm,Qj,Qy,Qn,Q3,Qh,Q4,Qi,s1,s2,s3,s4,V.pure,Zgp,ta,wH,wB];refine W.opsT (by kernel_rfl) ?_;simp only[wA,↓Qc,simprocAttr];exact W.done (Zg.ret rfl (Qf0 _ (Kn h.p h.l h.h _ 9) (Qag hrv _).1) ⟨_,_,rfl,by rw[hd2];exact⟨pv,lv,hv,cs,rfl,h⟩,by rw[hd2];exact hrv⟩)
             . have q1:(c.kind==14)=false:=by simp[k14]
               by_cases k17:c.kind=17
               . have q2:(c.kind==17)=true:=by simp[k17]
                 simp only[wA,↓Qc,simprocAttr,hE2,q1,q2,x1,x2,Qk,Qf,Zm,Qj,Qy,Qn,Q3,Qh,Q4,Qi,s1,s2,s3,s4,V.pure,Zgp,ta,wH,wB];refine W.pcallT hlook rfl rfl (Qt hlf (Qt hfc (Qt rfl rfl))) ?_;intro rv hrv;obtain⟨_,ys,rfl,y1,y2⟩:=Qag hrv (fun _ _=>none);obtain⟨w0,w1,w2,w3,w4,w5,w6,w7,w8,w9,rfl⟩:=Ql8 y1;simp only[wA,↓Qc,simprocAttr,y1,y2,x1,x2,Qk,Qf,Zm,Qj,Qy,Qn,Q3,Qh,Q4,Qi,s1,s2,s3,s4,V.pure,Zgp,ta,wH,wB];refine W.opsT (by kernel_rfl) ?_;simp only[wA,↓Qc,simprocAttr];exact W.done (Zg.ret rfl (Qf0 _ (Kn h.p h.l h.h _ 9) (Qag hrv _).1) ⟨_,_,rfl,by rw[hd2];exact⟨pv,lv,hv,cs,rfl,h⟩,by rw[hd2];exact hrv⟩)
               . have q2:(c.kind==17)=false:=by simp[k17]
                 have q3:(c.kind==18)=true:=by simp;omega
                 simp only[wA,↓Qc,simprocAttr,hE2,q1,q2,q3,x1,x2,Qk,Qf,Zm,Qj,Qy,Qn,Q3,Qh,Q4,Qi,s1,s2,s3,s4,V.pure,Zgp,ta,wH,wB];refine W.pcallT hlook rfl rfl (Qt hlf (Qt hfc (Qt rfl rfl))) ?_;intro rv hrv;obtain⟨_,ys,rfl,y1,y2⟩:=Qag hrv (fun _ _=>none);obtain⟨w0,w1,w2,w3,w4,w5,w6,w7,w8,w9,rfl⟩:=Ql8 y1;simp only[wA,↓Qc,simprocAttr,y1,y2,x1,x2,Qk,Qf,Zm,Qj,Qy,Qn,Q3,Qh,Q4,Qi,s1,s2,s3,s4,V.pure,Zgp,ta,wH,wB];refine W.opsT (by kernel_rfl) ?_;simp only[wA,↓Qc,simprocAttr];exact W.done (Zg.ret rfl (Qf0 _ (Kn h.p h.l h.h _ 9) (Qag hrv _).1) ⟨_,_,rfl,by rw[hd2];exact⟨pv,lv,hv,cs,rfl,h⟩,by rw[hd2];exact hrv⟩)
           . have q1:(c.kind==14)=false:=by simp;omega
             have q2:(c.kind==17)=false:=by simp;omega
             have q3:(c.kind==18)=false:=by simp;omega
             cases hsn:L.snap with
             |true=>
              have hd2:Z0 S c=(S,Zl 202):=by rw[hd1];unfold Z9;rw[if_neg (by simp[hE]),if_neg hlk,if_pos hsn];exact hsame _
              simp only[wA,↓Qc,simprocAttr,hE2,q1,q2,q3,hsn,x1,x2,Qk,Qf,Zm,Qj,Qy,Qn,Q3,Qh,Q4,Qi,s1,s2,s3,s4,V.pure,Zgp,ta,wH,wB];refine W.pcallT (Yf 202) rfl rfl rfl ?_;rintro _ rfl;simp only[wA,↓Qc,simprocAttr,Q7,Qk,Qf,Zm,Qj,Qy,Qn,Q3,Qh,Q4,Qi,s1,s2,s3,s4,V.pure,Zgp,ta,wH,wB];refine W.opsT (by kernel_rfl) ?_;simp only[wA,↓Qc,simprocAttr];exact W.done (Zg.ret rfl (Z1 h _ 202) (told_end 202 (hd2)))
             |false=>
              have hd2:Z0 S c=({S with lines:=putL S.lines c.a (Z6 L c (Q6 L c).1)},Zl 0):=by rw[hd1];unfold Z9;rw[if_neg (by simp[hE]),if_neg hlk,if_neg (by simp[hsn])]
              have hch:=Qpq c.a (L.key:Int) nv ov oc ns L hX okL c dv hc hkl hlk hE;have htw:=Qvy (Qk c.a L.snap L.owner L.prev (L.key:Int) nv ov) (fun p=>by simp only[Qk,Zv,V.refs,Ql.noRefs hX.n,Ql.noRefs hX.o,Zhq]) pv lv hv cs S h kk ok (by omega) (by omega) (by omega);simp only[Qk,hsn,zH,Ze] at htw;simp only[hsn] at hch hlf;simp only[wA,↓Qc,simprocAttr,hE2,q1,q2,q3,hsn,x1,x2,Qk,Qf,Zm,Qj,Qy,Qn,Q3,Qh,Q4,Qi,s1,s2,s3,s4,V.pure,Zgp,ta,wH,wB];refine W.call htw rfl rfl rfl rfl rfl ?_;rintro _ _ ⟨cs',h2,rfl,rfl⟩;have ial:=ia_L (S:=S) hj;have hl2:=h2.len;have c7:j*7+7<=S.lines.length*7:=by omega
              simp only[wA,↓Qc,simprocAttr,twL,twG,x1,x2,Qk,Qf,Zm,Qj,Qy,Qn,Q3,Qh,Q4,Qi,s1,s2,s3,s4,V.pure,Zgp,ta,wH,wB];refine W.pcallT hch rfl rfl (Qt hlf (Qt hfc (Qt rfl rfl))) ?_;rintro _ ⟨nv',ov',oc',ns',rfl,hY⟩;have y1:=Qz hY.n;have y2:=Qz hY.o;simp only[wA,↓Qc,simprocAttr,twL,twG,y1,y2,ial,hl2,c7,Qk,Qf,Zm,Qj,Qy,Qn,Q3,Qh,Q4,Qi,s1,s2,s3,s4,V.pure,Zgp,ta,wH,wB];refine W.opsT (by kernel_rfl) ?_;have hsm:=Qip L c (Q6 L c).1;have hlc:LnC (Qk c.a false L.owner L.prev (L.key:Int) nv' ov') (c.a,Z6 L c (Q6 L c).1):=⟨nv',ov',oc',ns',by simp only[hsm.1,hsm.2.1,hsm.2.2.1,hsm.2.2.2,hsn],hY⟩;have hcc:=Zy.put hlc j hj h2;rw[<-Qea ok.uniq hj (by rw[hjl])] at hcc;have hpl2:(putL S.lines c.a (Z6 L c (Q6 L c).1)).length=S.lines.length:=by rw[Qea ok.uniq hj (by rw[hjl]),Zg0]
              simp only[wA,↓Qc,simprocAttr,Q7,twL,twG,y1,y2,Qk,Qf,Zm,Qj,Qy,Qn,Q3,Qh,Q4,Qi,s1,s2,s3,s4,V.pure,Zgp,ta,wH,wB];refine W.done (Zg.ret rfl (Qbv (pc:=Jd S) (lc:=Zu S) (a:=S.keys.length) (cs:=splice cs' (j*7) (Qk c.a false L.owner L.prev (L.key:Int) nv' ov')) (n:=S.lines.length) ((Bd S.keys).2 _ 8) ((Y9 S.keys).2 _ 8) (hcc.scal.2.2.2 _ 7) (by rw[Jz];omega) (by rw[hcc.len,hpl2]) rfl rfl rfl) ⟨_,_,rfl,?_,?_⟩)
              . rw[hd2];have:=Qbx (S:=S) (made:=S.last) hcc;rw[hpl2] at this;exact this
              . rw[hd2];exact Zk 0
         . have hE2:((Q6 L c).2 !=0)=true:=by simp[hE]
           have hd2:Z0 S c=(S,Zl (Q6 L c).2):=by rw[hd1];unfold Z9;rw[if_pos (by simp[hE])];exact hsame _
           simp only[wA,↓Qc,simprocAttr,hE2,x1,x2,Qk,Qf,Zm,Qj,Qy,Qn,Q3,Qh,Q4,Qi,s1,s2,s3,s4,V.pure,Zgp,ta,wH,wB];refine W.pcallT (Yf (Q6 L c).2) rfl rfl rfl ?_;rintro _ rfl;simp only[wA,↓Qc,simprocAttr,Q7,Qk,Qf,Zm,Qj,Qy,Qn,Q3,Qh,Q4,Qi,s1,s2,s3,s4,V.pure,Zgp,ta,wH,wB];refine W.opsT (by kernel_rfl) ?_;simp only[wA,↓Qc,simprocAttr];exact W.done (Zg.ret rfl (Z1 h _ (Q6 L c).2) (told_end (Q6 L c).2 hd2))
       . have e18:(c.kind !=18)=true:=by simp[h18]
         simp only[wA,↓Qc,simprocAttr,c0,atj,↓ra,atl,la,la1,la2,x1,x2,e18,Qk,Qf,Zm,Qj,Qy,Qn,Q3,Qh,Q4,Qi,s1,s2,s3,s4,V.pure,Zgp,ta,wH,wB];refine W.pcall (Qt1 c.name (by have:=hc.name;omega)) rfl rfl rfl ?_;rintro _ rfl;cases hnm:X8 c.name with
         |false=>
          have hd3:Z0 S c=(S,Zl 240):=by rw[hd0,if_pos ⟨h18,by simp[Kh,hnm]⟩]
          simp only[wA,↓Qc,simprocAttr,x1,x2,Qk,Qf,Zm,Qj,Qy,Qn,Q3,Qh,Q4,Qi,s1,s2,s3,s4,V.pure,Zgp,ta,wH,wB];refine W.pcallT (Yf 240) rfl rfl rfl ?_;rintro _ rfl;simp only[wA,↓Qc,simprocAttr,Q7,Qk,Qf,Zm,Qj,Qy,Qn,Q3,Qh,Q4,Qi,s1,s2,s3,s4,V.pure,Zgp,ta,wH,wB];refine W.opsT (by kernel_rfl) ?_;simp only[wA,↓Qc,simprocAttr];exact W.done (Zg.ret rfl (Z1 h _ 240) (told_end 240 (hd3)))
         |true=>
          have hd1:Z0 S c=({S with lines:=putL S.lines c.a (Z9 L c).1},(Z9 L c).2):=by rw[hd0,if_neg (by simp[Kh,hnm]),hll]
          simp only[wA,↓Qc,simprocAttr,x1,x2,Qk,Qf,Zm,Qj,Qy,Qn,Q3,Qh,Q4,Qi,s1,s2,s3,s4,V.pure,Zgp,ta,wH,wB];refine W.pcall hask rfl rfl (Qt hlf (Qt hfc rfl)) ?_;rintro _ rfl;by_cases hE:(Q6 L c).2=0
          . have hE2:((Q6 L c).2 !=0)=false:=by simp[hE]
            by_cases hlk:c.kind=14\/c.kind=17\/c.kind=18
            . have hlook:=Qr5 c.a (L.key:Int) nv ov oc ns L hX okL c dv hc hkl hlk hE;have hd2:Z0 S c=(S,Bs L c (Q6 L c).1):=by
               rw[hd1];unfold Z9;rw[if_neg (by simp[hE]),if_pos hlk];exact hsame _
              by_cases k14:c.kind=14
              . have q1:(c.kind==14)=true:=by simp[k14]
                simp only[wA,↓Qc,simprocAttr,hE2,q1,x1,x2,Qk,Qf,Zm,Qj,Qy,Qn,Q3,Qh,Q4,Qi,s1,s2,s3,s4,V.pure,Zgp,ta,wH,wB];refine W.pcallT hlook rfl rfl (Qt hlf (Qt hfc (Qt rfl rfl))) ?_;intro rv hrv;obtain⟨_,ys,rfl,y1,y2⟩:=Qag hrv (fun _ _=>none);obtain⟨w0,w1,w2,w3,w4,w5,w6,w7,w8,w9,rfl⟩:=Ql8 y1;simp only[wA,↓Qc,simprocAttr,y1,y2,x1,x2,Qk,Qf,Zm,Qj,Qy,Qn,Q3,Qh,Q4,Qi,s1,s2,s3,s4,V.pure,Zgp,ta,wH,wB];refine W.opsT (by kernel_rfl) ?_;simp only[wA,↓Qc,simprocAttr];exact W.done (Zg.ret rfl (Qf0 _ (Kn h.p h.l h.h _ 9) (Qag hrv _).1) ⟨_,_,rfl,by rw[hd2];exact⟨pv,lv,hv,cs,rfl,h⟩,by rw[hd2];exact hrv⟩)
              . have q1:(c.kind==14)=false:=by simp[k14]
                by_cases k17:c.kind=17
                . have q2:(c.kind==17)=true:=by simp[k17]
                  simp only[wA,↓Qc,simprocAttr,hE2,q1,q2,x1,x2,Qk,Qf,Zm,Qj,Qy,Qn,Q3,Qh,Q4,Qi,s1,s2,s3,s4,V.pure,Zgp,ta,wH,wB];refine W.pcallT hlook rfl rfl (Qt hlf (Qt hfc (Qt rfl rfl))) ?_;intro rv hrv;obtain⟨_,ys,rfl,y1,y2⟩:=Qag hrv (fun _ _=>none);obtain⟨w0,w1,w2,w3,w4,w5,w6,w7,w8,w9,rfl⟩:=Ql8 y1;simp only[wA,↓Qc,simprocAttr,y1,y2,x1,x2,Qk,Qf,Zm,Qj,Qy,Qn,Q3,Qh,Q4,Qi,s1,s2,s3,s4,V.pure,Zgp,ta,wH,wB];refine W.opsT (by kernel_rfl) ?_;simp only[wA,↓Qc,simprocAttr];exact W.done (Zg.ret rfl (Qf0 _ (Kn h.p h.l h.h _ 9) (Qag hrv _).1) ⟨_,_,rfl,by rw[hd2];exact⟨pv,lv,hv,cs,rfl,h⟩,by rw[hd2];exact hrv⟩)
                . have q2:(c.kind==17)=false:=by simp[k17]
                  have q3:(c.kind==18)=true:=by simp;omega
                  simp only[wA,↓Qc,simprocAttr,hE2,q1,q2,q3,x1,x2,Qk,Qf,Zm,Qj,Qy,Qn,Q3,Qh,Q4,Qi,s1,s2,s3,s4,V.pure,Zgp,ta,wH,wB];refine W.pcallT hlook rfl rfl (Qt hlf (Qt hfc (Qt rfl rfl))) ?_;intro rv hrv;obtain⟨_,ys,rfl,y1,y2⟩:=Qag hrv (fun _ _=>none);obtain⟨w0,w1,w2,w3,w4,w5,w6,w7,w8,w9,rfl⟩:=Ql8 y1;simp only[wA,↓Qc,simprocAttr,y1,y2,x1,x2,Qk,Qf,Zm,Qj,Qy,Qn,Q3,Qh,Q4,Qi,s1,s2,s3,s4,V.pure,Zgp,ta,wH,wB];refine W.opsT (by kernel_rfl) ?_;simp only[wA,↓Qc,simprocAttr];exact W.done (Zg.ret rfl (Qf0 _ (Kn h.p h.l h.h _ 9) (Qag hrv _).1) ⟨_,_,rfl,by rw[hd2];exact⟨pv,lv,hv,cs,rfl,h⟩,by rw[hd2];exact hrv⟩)
            . have q1:(c.kind==14)=false:=by simp;omega
              have q2:(c.kind==17)=false:=by simp;omega
              have q3:(c.kind==18)=false:=by simp;omega
              cases hsn:L.snap with
              |true=>
               have hd2:Z0 S c=(S,Zl 202):=by rw[hd1];unfold Z9;rw[if_neg (by simp[hE]),if_neg hlk,if_pos hsn];exact hsame _
               simp only[wA,↓Qc,simprocAttr,hE2,q1,q2,q3,hsn,x1,x2,Qk,Qf,Zm,Qj,Qy,Qn,Q3,Qh,Q4,Qi,s1,s2,s3,s4,V.pure,Zgp,ta,wH,wB];refine W.pcallT (Yf 202) rfl rfl rfl ?_;rintro _ rfl;simp only[wA,↓Qc,simprocAttr,Q7,Qk,Qf,Zm,Qj,Qy,Qn,Q3,Qh,Q4,Qi,s1,s2,s3,s4,V.pure,Zgp,ta,wH,wB];refine W.opsT (by kernel_rfl) ?_;simp only[wA,↓Qc,simprocAttr];exact W.done (Zg.ret rfl (Z1 h _ 202) (told_end 202 (hd2)))
              |false=>
               have hd2:Z0 S c=({S with lines:=putL S.lines c.a (Z6 L c (Q6 L c).1)},Zl 0):=by rw[hd1];unfold Z9;rw[if_neg (by simp[hE]),if_neg hlk,if_neg (by simp[hsn])]
               have hch:=Qpq c.a (L.key:Int) nv ov oc ns L hX okL c dv hc hkl hlk hE;have htw:=Qvy (Qk c.a L.snap L.owner L.prev (L.key:Int) nv ov) (fun p=>by simp only[Qk,Zv,V.refs,Ql.noRefs hX.n,Ql.noRefs hX.o,Zhq]) pv lv hv cs S h kk ok (by omega) (by omega) (by omega);simp only[Qk,hsn,zH,Ze] at htw;simp only[hsn] at hch hlf;simp only[wA,↓Qc,simprocAttr,hE2,q1,q2,q3,hsn,x1,x2,Qk,Qf,Zm,Qj,Qy,Qn,Q3,Qh,Q4,Qi,s1,s2,s3,s4,V.pure,Zgp,ta,wH,wB];refine W.call htw rfl rfl rfl rfl rfl ?_;rintro _ _ ⟨cs',h2,rfl,rfl⟩;have ial:=ia_L (S:=S) hj;have hl2:=h2.len;have c7:j*7+7<=S.lines.length*7:=by omega
               simp only[wA,↓Qc,simprocAttr,twL,twG,x1,x2,Qk,Qf,Zm,Qj,Qy,Qn,Q3,Qh,Q4,Qi,s1,s2,s3,s4,V.pure,Zgp,ta,wH,wB];refine W.pcallT hch rfl rfl (Qt hlf (Qt hfc (Qt rfl rfl))) ?_;rintro _ ⟨nv',ov',oc',ns',rfl,hY⟩;have y1:=Qz hY.n;have y2:=Qz hY.o;simp only[wA,↓Qc,simprocAttr,twL,twG,y1,y2,ial,hl2,c7,Qk,Qf,Zm,Qj,Qy,Qn,Q3,Qh,Q4,Qi,s1,s2,s3,s4,V.pure,Zgp,ta,wH,wB];refine W.opsT (by kernel_rfl) ?_;have hsm:=Qip L c (Q6 L c).1;have hlc:LnC (Qk c.a false L.owner L.prev (L.key:Int) nv' ov') (c.a,Z6 L c (Q6 L c).1):=⟨nv',ov',oc',ns',by simp only[hsm.1,hsm.2.1,hsm.2.2.1,hsm.2.2.2,hsn],hY⟩;have hcc:=Zy.put hlc j hj h2;rw[<-Qea ok.uniq hj (by rw[hjl])] at hcc;have hpl2:(putL S.lines c.a (Z6 L c (Q6 L c).1)).length=S.lines.length:=by rw[Qea ok.uniq hj (by rw[hjl]),Zg0]
               simp only[wA,↓Qc,simprocAttr,Q7,twL,twG,y1,y2,Qk,Qf,Zm,Qj,Qy,Qn,Q3,Qh,Q4,Qi,s1,s2,s3,s4,V.pure,Zgp,ta,wH,wB];refine W.done (Zg.ret rfl (Qbv (pc:=Jd S) (lc:=Zu S) (a:=S.keys.length) (cs:=splice cs' (j*7) (Qk c.a false L.owner L.prev (L.key:Int) nv' ov')) (n:=S.lines.length) ((Bd S.keys).2 _ 8) ((Y9 S.keys).2 _ 8) (hcc.scal.2.2.2 _ 7) (by rw[Jz];omega) (by rw[hcc.len,hpl2]) rfl rfl rfl) ⟨_,_,rfl,?_,?_⟩)
               . rw[hd2];have:=Qbx (S:=S) (made:=S.last) hcc;rw[hpl2] at this;exact this
               . rw[hd2];exact Zk 0
          . have hE2:((Q6 L c).2 !=0)=true:=by simp[hE]
            have hd2:Z0 S c=(S,Zl (Q6 L c).2):=by rw[hd1];unfold Z9;rw[if_pos (by simp[hE])];exact hsame _
            simp only[wA,↓Qc,simprocAttr,hE2,x1,x2,Qk,Qf,Zm,Qj,Qy,Qn,Q3,Qh,Q4,Qi,s1,s2,s3,s4,V.pure,Zgp,ta,wH,wB];refine W.pcallT (Yf (Q6 L c).2) rfl rfl rfl ?_;rintro _ rfl;simp only[wA,↓Qc,simprocAttr,Q7,Qk,Qf,Zm,Qj,Qy,Qn,Q3,Qh,Q4,Qi,s1,s2,s3,s4,V.pure,Zgp,ta,wH,wB];refine W.opsT (by kernel_rfl) ?_;simp only[wA,↓Qc,simprocAttr];exact W.done (Zg.ret rfl (Z1 h _ (Q6 L c).2) (told_end (Q6 L c).2 hd2))
end
end Go.Proofs.YtmapmgfiamfocaaGreat
