/- This file holds in one the texts D1, D2, D3, D4; each says at its head what it proves. -/
import Derived.Test.YtidniacddkalaaaGreatDoorT16
import Derived.Test.YtidniacddkalaaaGreatDoorT30
set_option linter.unusedSimpArgs false
set_option linter.unusedVariables false
namespace Go.Proofs.YtidniacddkalaaaGreatDoor
section
set_option maxRecDepth 100000
open Go.AM
attribute [local irreducible] U W
theorem by27:byt Tryz.prog 26=some 24:=by kernel_rfl
theorem by8:byt Tryz.prog 5=some 1:=by kernel_rfl
theorem by64:byt Tryz.prog 3=some 8:=by kernel_rfl
def Kc(k:Nat)(i:Nat):List V:=(List.range i).map fun j=> .mS k 20 (256*j) 256 (some 256) 1
theorem Q2j(k i:Nat):Kc k (i+1)=Kc k i++[.mS k 20 (256*i) 256 (some 256) 1]:=by simp[Kc,Zuc]
theorem Qpy(k i:Nat)(p:Nat->Nat->Bool)(h:p k 20=false):Qi p (Kc k i)=false:=by
 have:∀l:List Nat,Qi p (l.map fun j=>V.mS k 20 (256*j) 256 (some 256) 1)=false:=by
  intro l
  induction l with
  |nil=>rfl
  |cons j l ih=>simp only[Zrw,Qi,V.refs,h,ih,Bool.or_self]
 exact this _
def Qqf(k i:Nat):V:= .mS k 20 (if i<256 then 256*i else 65280) (65536-256*i) (some (65536-256*i)) 1
theorem Qg4{K:Heap}(hw:WF K){p:Nat->Nat->Bool}(hp:∀f s,p f s=true->K.length<=f):Qz p K=true:=by refine Qhn (fun f s h=>?_) K hw;simp only[Nat.ble_eq];exact hp f s h
def Qwh(k i:Nat):V:=if i=0 then .nS else .gS k 33 (Kc k i) i 1
def frM(Z:List V)(i:Nat):AM.Frame:=if i=0 then[(20,.cells Z)] else[(20,.cells Z),(33,.grow i)]
def Q19(Z:List V)(x:V)(i:Nat):AM.Frame:=if i=0 then[(20,.cells Z)] else[(20,.cells Z),(32,.cells [x]),(33,.grow i)]
theorem Zdc(Z:List V)(x:V)(i:Nat):Jb (fun s=>[32].contains s) (Q19 Z x i)=frM Z i:=by unfold frM Q19;split<;>rfl
theorem cut_nn{P:Program}{u e:TypeId}(hu:P.underlying u=some (.slice e)){q:Nat}(hs:sz P e=some q){g:Get}{f s o len c n:Nat}{k:IntKind}(h:n<=c):
 Zh P g u (.mS f s o len (some c) q) none (some (.int k n)) (some (.int k n))=some (.mS f s o n (some n) q):=by
 simp only[Zh,Yj,hu,hs,if_true,Qps,Xs,Zsu,Zs3];rw[if_pos ⟨by omega,by omega,by omega,by omega,by omega,by omega,by simp⟩];simp
theorem Zdi(K:Heap)(Z:List V)(i:Nat)(hi:i<256)(x:V)(hx:x.scalar=true):
 Qq Tryz.prog (Qg.mt 142) K.length (Qd (K++[Kf (frM Z i) 32 (.cells [x])])) (some 33) 22 22 (Qwh K.length i) (.mS K.length 32 0 1 (some 1) 1)=
  some (.val (if i=0 then .gS K.length 33 [x] 1 1 else .gS K.length 33 (Kc K.length i++[x]) (i+1) 1) (some (K.length,33,.grow (i+1)))):=by
 have g32:Qd (K++[Kf (frM Z i) 32 (.cells [x])]) K.length 32=some (.cells [x]):=by rw[J6];show Bi (Kf (frM Z i) 32 _) 32=_;rw[Qcx];rfl
 have g33:Qd (K++[Kf (frM Z i) 32 (.cells [x])]) K.length 33=if i=0 then none else some (.grow i):=by
  rw[J6];show Bi (Kf (frM Z i) 32 _) 33=_;rw[Qcx,if_neg (by decide)];unfold frM;by_cases h:i=0
  . simp only[h,if_true];rfl
  . simp only[h,if_false];rfl
 have sc:Ql (Qd (K++[Kf (frM Z i) 32 (.cells [x])])) 1 (.mS K.length 32 0 1 (some 1) 1)=some ([x],1):=by simp only[Ql,g32];rfl
 have hsc:([x]:List V).all V.scalar=true:=by simp[hx]
 unfold Qwh;by_cases h:i=0
 . subst h;simp only[if_true] at g33⊢;rw[Qbq Tryz.underlying22 Qew by27 zc26 rfl Tryz.underlying22 sc (by decide) (by decide)];simp[grown,Qg,mtD,mtL,new,g33]
 . simp only[h,if_false] at g33⊢;have hr:Jl (i+1) 24=true:=Jj (by omega) (by omega);simp only[Qq,Tryz.underlying22,Qew,by27,zc26,Z3,sc,appendTo,hr,hsc,g33,Zrs,Zs9,if_true,and_self]
theorem Qns(p:Nat->Nat->Bool)(z:List V)(n:Nat)(h:Qi p z=false):Qi p (zerosN z n)=false:=by
 induction n with
 |zero=>rfl
 |succ n ih=>
  have app:∀a b:List V,Qi p a=false->Qi p b=false->Qi p (a++b)=false:=by
   intro a b ha hb
   induction a with
   |nil=>exact hb
   |cons x a iha=>simp only[Qi,Zs0,Zsr] at ha⊢;exact⟨ha.1,iha ha.2⟩
  exact app _ _ h ih
theorem Zai(K:Heap)(hw:WF K)(v:V)(L:List Int)(hl:L.length=256)(hL:∀i,i<256->L[i]?=some 256)(hv:Ke v L):
 CW Tryz.prog Qg 142 [v] K fun r K' =>r= .ret (.gS K.length 33 (Kc K.length 256) 256 1)/\K' =K++[[(20,.cells (zerosN [.int .u8 0] 65536)),(33,.grow 256)]]:=by
 refine Kb Tryz.func142 rfl ?_;have len:=hv.len Tryz.underlying32;rw[hl] at len;have at0:∀i:Nat,i<256->Qm Tryz.prog 32 v (.int .i64 i)=some (.iptr (Qr L) ((i:Int).toNat*1)):=fun i h=>by exact hv.at Tryz.underlying32 sz3 (by decide) (by omega) (by rw[hl];omega)
 have get0:∀i:Nat,i<256->(Qr L)[(i:Int).toNat*1]?=some (.int .i64 256):=fun i h=>by rw[Q07];simp[hL i h]
 simp only[wS,simprocAttr,Tryz.ntmps142,len];refine W.ul ?_;refine W.loopS (kt:=[0,2,3,9,10,11]) rfl (fun i:Nat=>Q4e v .nS (.int .i64 ((256*i:Nat):Int)) v (.int .i64 ((256:Nat):Int)) (.int .i64 i)) (fun _=>K++[[]]) (fun i=>i<=256) (fun i=>256-i) ?_ 0 (by omega) rfl rfl;rintro i hi;simp only[Q4e];by_cases h:i<256
 . have c1:decide ((i:Int)<((256:Nat):Int))=true:=Zum (by omega);have w1:=Qau (i:=i) (by omega);have w2:(IntKind.i64).wrap (((256*i:Nat):Int)+256)=((256*(i+1):Nat):Int):=by rw[wrap_i64]<;>omega
   simp only[Qmi,Qe2,Qfd,Zr,Q9,Y9,nov,gd,rho,Qu,wr,Nat.reduceAdd,Nat.reduceSub,if_true,if_false,reduceIte,reduceCtorEq,Nat.reduceLT,Nat.reduceEqDiff,Nat.reduceMul,Nat.reduceLeDiff,c1,at0 i h,rd3,get0 i h,w1,w2];exact W.done ⟨i+1,rfl,rfl,by omega,by omega⟩
 . have c1:decide ((i:Int)<((256:Nat):Int))=false:=Zun (by omega);have hi2:i=256:=by omega
   subst hi2;simp only[wS,simprocAttr,c1];refine W.done ?_;have e1:((256*256:Nat):Int)=65536:=rfl;have rm:Jl 65536 1=true:=by decide
   generalize hZ:zerosN [V.int .u8 0] 65536=Z;have hZ' :zerosN [V.int .u8 0] (65536:Int).toNat=Z:=hZ;simp only[wS,simprocAttr,e1,Tryz.underlying26,sz5,by8,zc5,Int.reduceLE,Int.reduceToNat,rm,and_self,wG,len,hZ,hZ'];refine W.ul ?_;have hk32:∀i,(Qwh K.length i).refs (fun f s=>f==K.length&&[32].contains s)=false:=by
    intro i;unfold Qwh;split
    . rfl
    . have:=Qpy K.length i (fun f s=>f==K.length&&[32].contains s) (by simp);simp only[V.refs,this];simp
   refine W.loop (fun(i:Nat) t H=>∃x:V,Yf [2,6,21,22,23] t 0=Qv4 (Qwh K.length i) (Qqf K.length i) v (.int .i64 ((256:Nat):Int)) (.int .i64 i)/\i<=256/\H=K++[Q19 Z x i]/\x.refs (fun f s=>f==K.length&&[32].contains s)=false)
    (fun i=>256-i) ?_ 0 ⟨.bad,rfl,by omega,rfl,rfl⟩ rfl
   rintro i t H ⟨x,ht,hi,rfl,hx⟩;have vr:v.refs (fun f s=>f==K.length&&[32].contains s)=false:=hv.noRefs _;have zr:Qi (fun f s=>f==K.length&&[32].contains s) Z=false:=by rw[<-hZ];exact Qns _ _ _ rfl
   have hd:(K++[Q19 Z x i]).modify K.length (Jb fun s=>[32].contains s)=K++[frM Z i]:=by have:=Qdr (Jb fun s=>[32].contains s) K [Q19 Z x i] 0;rw[Ztw] at this;rw[this,<-Zdc Z x i];rfl
   refine⟨_,_,Jh (kt:=[2,6,21,22,23]) (ds:=[32]) rfl ?_ ?_,?_⟩
   . rw[ht];simp only[Qv4,Qi,V.refs,hk32 i,vr,Qqf];simp
   . rw[hd,B9,Qg4 hw (fun f s h=>by simp at h;omega)];unfold frM;split<;>simp only[Qz,Zb,O.refs,zr]<;>rfl
   rw[ht,hd];simp only[Qv4];by_cases h:i<256
   . have c1:decide ((i:Int)<((256:Nat):Int))=true:=Zum (by omega);have w1:=Qau (i:=i) (by omega);have rs:Qqf K.length i= .mS K.length 20 (256*i) (65536-256*i) (some (65536-256*i)) 1:=by simp only[Qqf,h,if_true]
     have rs2:V.mS K.length 20 (if 65536-256*i=256 then 256*i else 256*i+256*1) (65536-256*i-256) (some (65536-256*i-256)) 1=Qqf K.length (i+1):=by
      unfold Qqf;have e1:65536-256*i-256=65536-256*(i+1):=by omega
      rw[e1];congr 1;by_cases h2:i=255
      . subst h2;rfl
      . rw[if_neg (by omega),if_pos (by omega)];omega
     have sl1:∀g,Zh Tryz.prog g 26 (.mS K.length 20 (256*i) (65536-256*i) (some (65536-256*i)) 1) none (some (.int .i64 256)) (some (.int .i64 256))=some (.mS K.length 20 (256*i) 256 (some 256) 1):=
      fun g=>cut_nn (n:=256) Tryz.underlying26 sz5 (by omega)
     have sl2:∀g,Zh Tryz.prog g 26 (.mS K.length 20 (256*i) (65536-256*i) (some (65536-256*i)) 1) (some (.int .i64 256)) none none=some (Qqf K.length (i+1)):=fun g=>by rw[<-rs2];exact Qxk (w:=256) Tryz.underlying26 sz5 (by omega) (by omega) g
     have n32:Qd (K++[frM Z i]) K.length 32=none:=by rw[J6];show Bi (frM Z i) 32=none;unfold frM;split<;>rfl
     have s32:∀o,hset (K++[frM Z i]) K.length 32 o=K++[Kf (frM Z i) 32 o]:=fun o=>X8 _ _ _ _;have s33:∀y,hset (K++[Kf (frM Z i) 32 (.cells [y])]) K.length 33 (.grow (i+1))=K++[Q19 Z y (i+1)]:=fun y=>by rw[X8];show K++[Kf (Kf (frM Z i) 32 _) 33 _]=_;unfold frM Q19;rw[if_neg (Zud i)];split<;>rfl
     have ap:=Zdi K Z i h (.mS K.length 20 (256*i) 256 (some 256) 1) rfl;have eo:(if i=0 then V.gS K.length 33 [.mS K.length 20 (256*i) 256 (some 256) 1] 1 1 else .gS K.length 33 (Kc K.length i++[.mS K.length 20 (256*i) 256 (some 256) 1]) (i+1) 1)=Qwh K.length (i+1):=by
      unfold Qwh;rw[if_neg (Zud i),Q2j];by_cases h0:i=0
      . subst h0;rfl
      . rw[if_neg h0]
     rw[eo] at ap;have mt32:Qg.mt 142 32=true:=rfl;have get1:(Qr L)[(i:Int).toNat]?=some (.int .i64 256):=by have:=get0 i h;rwa[Zsd] at this
     rw[rs];simp only[Qmi,Qe2,Qfd,Zr,Q9,Y9,nov,gd,rho,Qu,wr,Nat.reduceAdd,Nat.reduceSub,if_true,if_false,reduceIte,reduceCtorEq,Nat.reduceLT,Nat.reduceEqDiff,Nat.reduceMul,Nat.reduceLeDiff,c1,at0 i h,rd3,get0 i h,get1,w1,sl1,sl2,Tryz.underlying22,Qew,zc26,mt32,new,n32,s32,Q2,ap,s33,wB];exact W.done ⟨i+1,⟨_,rfl,by omega,rfl,by simp[V.refs]⟩,by omega⟩
   . have c1:decide ((i:Int)<((256:Nat):Int))=false:=Zun (by omega);have hi2:i=256:=by omega
     subst hi2;simp only[wS,simprocAttr,c1];refine W.done ?_;simp only[wS,simprocAttr];refine W.done (End.ret (v:=Qwh K.length 256) rfl ?_);rw[K3 (by simp[Qwh,V.refs])];exact⟨rfl,rfl⟩
def Qje:V->Bool
 | .int _ _=>true
 |_=>false
def Ju(c:List V):Prop:=c.length=256/\c.all Qje=true
theorem Qt6{x:V}(h:Qje x=true):x.scalar=true:=by cases x<;>first|rfl|cases h
theorem Qmv{c:List V}(h:c.all Qje=true):c.all V.scalar=true:=by rw[Zr2] at h⊢;exact fun x hx=>Qt6 (h x hx)
theorem Qcz(p:Nat->Nat->Bool):∀{c:List V},c.all Qje=true->Qi p c=false
 |[],_=>rfl
 |x::c,h=>by
  simp only[List.all_cons,Zr1] at h;simp only[Qi,Qcz p h.2,Zub];cases x<;>first|rfl|(cases h.1)
theorem Q9a(K:Heap)(c:List V)(fl:Bool)(hc:Ju c):
 CW Tryz.prog Qg 31 [.iS c 256 fl] K fun r K' =>r= .ret (.mS K.length 7 0 256 none 1)/\K' =K++[[(5,.cells []),(7,.cells c)]]:=by
 refine Kb Tryz.func31 rfl ?_;have nn:=Qbk (P:=Tryz.prog) (t:=26) Tryz.underlying26 (x:= .tmp 3) (y:= .const (.slice none 0 0)) (cs:=c) (n:=256) (f:=fl);have mt5:Qg.mt 31 5=true:=rfl;have mt7:Qg.mt 31 7=true:=rfl;have sc:∀g,Ql g 1 (.iS c 256 fl)=some (c,256):=fun g=>by simp[Ql,hc.1]
 have s5:hset (K++[[]]) K.length 5 (.cells [])=K++[[(5,.cells [])]]:=by rw[X8];rfl
 have n5:Qd (K++[[]]) K.length 5=none:=by rw[J6];rfl
 have n7:Qd (K++[[(5,O.cells [])]]) K.length 7=none:=by rw[J6];rfl
 have g5:Qd (K++[[(5,O.cells [])]]) K.length 5=some (.cells []):=by rw[J6];rfl
 have ap:Qq Tryz.prog (Qg.mt 31) K.length (Qd (K++[[(5,O.cells [])]])) (some 7) 26 26 (.mS K.length 5 0 0 (some 0) 1) (.iS c 256 fl)=some (.val (.mS K.length 7 0 256 none 1) (some (K.length,7,.cells c))):=by simp only[Qq,Tryz.underlying26,sz5,by8,zc5,Z3,sc,appendTo,g5];simp[grown,mt7,new,n7,Qmv hc.2,Jl]
 have s7:hset (K++[[(5,O.cells [])]]) K.length 7 (.cells c)=K++[[(5,.cells []),(7,.cells c)]]:=by rw[X8];rfl
 simp only[wS,simprocAttr,Tryz.ntmps31,nn,mt5,new,n5,s5,Q2,ap,s7,Tryz.underlying26,sz5,zc5,wB];refine W.done (End.ret (v:= .mS K.length 7 0 256 none 1) rfl ?_);rw[K3 (by simp[V.refs])];exact⟨rfl,rfl⟩
theorem Qde(g:Get)(n:Nat):∀{c:List V},c.all Qje=true->Qt (frz g (n+1)) c=some c
 |[],_=>rfl
 |x::c,h=>by
  simp only[List.all_cons,Zr1] at h;have hx:frz g (n+1) x=some x:=by cases x<;>first|rfl|(cases h.1)
  simp only[Qt,hx,Qde g n h.2]
theorem Qml{g:Get}{f s o len esz m:Nat}{cap:Option Nat}{xs:List V}(hg:g f s=some (.cells xs))(hl:o+len*esz<=xs.length)(hx:Qt (frz g (m+1)) ((xs.drop o).take (len*esz))=some ((xs.drop o).take (len*esz))):
 frz g (m+2) (.mS f s o len cap esz)=some (.iS ((xs.drop o).take (len*esz)) len (cap==some len)):=by
 have e:frz g (m+2) (.mS f s o len cap esz)=(match g f s with
  |some (.cells xs)=>if o+len*esz<=xs.length then(Qt (frz g (m+1)) ((xs.drop o).take (len*esz))).map fun cs=> .iS cs len (cap==some len) else none
  |_=>none):=rfl
 rw[e,hg];simp only[hl,if_true,hx,Zrb]
theorem Qxo(c:List V)(fl:Bool)(hc:Ju c):Fz Tryz.prog Qg 31 [.iS c 256 fl] fun r=>r= .iS c 256 false:=by
 refine Fz.of_cw ((Q9a [] c fl hc).mono ?_);rintro r H' ⟨rfl,rfl⟩;have e:(c.drop 0).take (256*1)=c:=by rw[Ztu,Ztz (Nat.le_of_eq hc.1)]
 have hf:=Qml (g:=Qd ([]++[[(5,O.cells []),(7,O.cells c)]])) (f:=0) (s:=7) (o:=0) (len:=256) (esz:=1) (cap:=none) (xs:=c) (m:=10) rfl (by rw[hc.1];exact Zrf _) (by rw[e];exact Qde _ _ hc.2);exact⟨_,rfl,_,hf,by rw[e];rfl⟩
structure Qor(K:Heap)(bv:V)(r:Nat->List V):Prop where
 len:∀g,Y4 Tryz.prog g 22 bv=some (.int .i64 256)
 ex:∃p q:Nat->V,(∀i:Nat,i<256->Qm Tryz.prog 22 bv (.int .i64 (i:Int))=some (p i))/\(∀i,i<256->∀G,ldV Tryz.prog 26 (Qd (K++G)) (p i)=some (q i))/\∀i,i<256->∃fl,q i= .iS (r i) 256 fl
 rows:∀i,i<256->Ju (r i)
 refs:bv.refs (fun f _=>Nat.ble K.length f)=false
 cells:bv.cells=some [bv]
 sc:bv.scalar=true
theorem Qlf{esz n:Nat}{v:V}{cells:List V}(h:Q0 esz v cells n):v.scalar=true:=by obtain⟨_,⟨rfl,_⟩|⟨f,rfl⟩⟩:=h<;>rfl
def rep(i:Nat):List Int:=List.replicate i 256
theorem Qod(i:Nat):(rep i).length=i:=by simp[rep]
theorem Zd2{n i:Nat}(h:i<n):(rep n)[i]?=some 256:=by unfold rep;rw[List.getElem?_replicate,if_pos h]
theorem Zbx(i:Nat):rep (i+1)=rep i++[256]:=by simp[rep,List.replicate_succ']
def Qgv(k i:Nat):V:=if i=0 then .nS else .gS k 21 (Qr (rep i)) i 1
def Qiv(bv wv:V)(i:Nat):AM.Frame:=if i=0 then[(1,.cells [bv,wv]),(2,.cells [.nS,.nS])] else[(1,.cells [bv,wv]),(2,.cells [.nS,.nS]),(21,.grow i)]
theorem Q7w(K:Heap)(bv wv:V)(i:Nat)(hi:i<256):
 Qq Tryz.prog (Qg.mt 125) K.length (Qd (K++[Qiv bv wv i])) (some 21) 32 32 (Qgv K.length i) (.iS [.int .i64 256] 1 true)=
  some (.val (Qgv K.length (i+1)) (some (K.length,21,.grow (i+1)))):=by
 have g21:Qd (K++[Qiv bv wv i]) K.length 21=if i=0 then none else some (.grow i):=by
  rw[J6];show Bi (Qiv bv wv i) 21=_;unfold Qiv;by_cases h:i=0
  . simp only[h,if_true];rfl
  . simp only[h,if_false];rfl
 have sc:∀g,Ql g 1 (.iS [.int .i64 256] 1 true)=some ([.int .i64 256],1):=fun g=>rfl;unfold Qgv;rw[if_neg (Zud i),Zbx];by_cases h:i=0
 . subst h;simp only[if_true] at g21⊢;rw[Qbq Tryz.underlying32 sz3 by64 zc3 rfl Tryz.underlying32 (sc _) (by decide) (by decide),Xc rfl rfl g21];rfl
 . simp only[h,if_false] at g21⊢;rw[Qa2 Tryz.underlying32 sz3 by64 zc3 rfl Tryz.underlying32 (sc _) (by decide) (Jj (by omega) (by omega)) rfl rfl g21];simp[Qr]
def Bz(r:Nat->List V)(Z:List V)(i:Nat):List V:=((List.range i).map r).flatten++Z.drop (256*i)
theorem Qef{r:Nat->List V}:∀{i:Nat},(∀j,j<i->(r j).length=256)->((List.range i).map r).flatten.length=256*i
 |0,_=>rfl
 |i+1,h=>by
  rw[Zuc,Zua,Zsj,Zsi,Qef (fun j hj=>h j (by omega))];simp[h i (by omega)];omega
theorem Q2l(r:Nat->List V)(Z:List V):Bz r Z 0=Z:=by simp[Bz]
theorem Qf5{r:Nat->List V}{Z:List V}(hZ:Z.length=65536){i:Nat}(hi:i<=256)(h:∀j,j<256->(r j).length=256):(Bz r Z i).length=65536:=by rw[Bz,Zsi,Qef (fun j hj=>h j (by omega)),Zsw,hZ];omega
theorem Qvk{r:Nat->List V}{Z:List V}(hZ:Z.length=65536){i:Nat}(hi:i<256)(h:∀j,j<256->(r j).length=256):splice (Bz r Z i) (256*i) (r i)=Bz r Z (i+1):=by
 have hf:=Qef (r:=r) (i:=i) (fun j hj=>h j (by omega));unfold splice Bz;rw[Zuc,Zua,Zsj,List.take_left' hf,List.drop_append,hf,Ztt (by rw[hf,h i hi];omega),h i hi];have e:256*i+256-256*i=256:=by omega
 rw[e,Zsh];have e2:256*i+256=256*(i+1):=by omega
 rw[e2];simp
theorem Qcs(n:Nat)(x:V):(zerosN [x] n).length=n:=by
 induction n with
 |zero=>rfl
 |succ n ih=>simp[zerosN,ih]
theorem Q5o(k:Nat){n i:Nat}(h:i<n):(Kc k n)[i]?=some (.mS k 20 (256*i) 256 (some 256) 1):=by simp[Kc,h]
theorem Q02(k:Nat):Qx (Kc k 256)=false:=by show Qx ((List.range (255+1)).map fun j=>V.mS k 20 (256*j) 256 (some 256) 1)=false;rw[List.range_succ_eq_map];rfl
theorem Zc9{P:Program}{t:TypeId}{g:Get}{cs:List V}{o:Nat}:ldV P t g (.rptr cs o)=Qn P t cs o:=rfl
theorem Zb3{g:Get}{f s o:Nat}{xs c:List V}{fl:Bool}(hc:Ju c)(hg:g f s=some (.cells xs))(hl:o+256<=xs.length):
 Qbz Tryz.prog g 26 (.mS f s o 256 (some 256) 1) (.iS c 256 fl)=some (.val (.int .i64 256) (some (f,s,.cells (splice xs o c)))):=by
 have sc:Bv g 1 (.iS c 256 fl)=some (c,256):=by simp[Bv,Ql,hc.1]
 have tk:c.take (min 256 256*1)=c:=Ztz (by rw[hc.1];decide);simp only[Qbz,Tryz.underlying26,sz5,sc,Qbi,hg,if_true,tk,Qmv hc.2];rw[if_pos ⟨by omega,trivial⟩];rfl
theorem Q3c{r:Nat->List V}{Z:List V}(p:Nat->Nat->Bool)(h:∀j,j<256->(r j).all Qje=true)(hz:∀p,Qi p Z=false):Qi p (Bz r Z 256)=false:=by
 have app:∀a b:List V,Qi p a=false->Qi p b=false->Qi p (a++b)=false:=by
  intro a b ha hb
  induction a with
  |nil=>exact hb
  |cons x a iha=>simp only[Qi,Zs0,Zsr] at ha⊢;exact⟨ha.1,iha ha.2⟩
 have dr:∀(l:List V) (m:Nat),Qi p l=false->Qi p (l.drop m)=false:=by
  intro l
  induction l with
  |nil=>intro m _;simp[Qi]
  |cons x l ih=>intro m h;cases m with
   |zero=>exact h
   |succ m=>simp only[Qi,Zsr] at h;exact ih m h.2
 have fl:∀i,i<=256->Qi p ((List.range i).map r).flatten=false:=by
  intro i
  induction i with
  |zero=>intro _;rfl
  |succ i ih=>
   intro hi;rw[Zuc,Zua,Zsj];refine app _ _ (ih (by omega)) ?_;simp only[Zrw,Zsc,List.flatten_cons,List.flatten_nil,Zsp];exact Qcz p (h i (by omega))
 exact app _ _ (fl 256 (Zrf _)) (dr _ _ (hz p))
def Qb9(a:Nat->Int)(d:Nat->List V)(i:Nat):List V:=((List.range i).map fun j=>[V.int .i64 (a j),.iS (d j) 256 false]).flatten
theorem Qd1(a:Nat->Int)(d:Nat->List V)(i:Nat):Qb9 a d (i+1)=Qb9 a d i++[.int .i64 (a i),.iS (d i) 256 false]:=by simp[Qb9,Zuc]
def Kv(k:Nat)(a:Nat->Int)(d:Nat->List V)(i:Nat):V:=if i=0 then .nS else .gS k 58 (Qb9 a d i) i 2
theorem Qnc(p:Nat->Nat->Bool)(a:Nat->Int)(d:Nat->List V):∀i,Qi p (Qb9 a d i)=false
 |0=>rfl
 |i+1=>by
  rw[Qd1];have app:∀a b:List V,Qi p a=false->Qi p b=false->Qi p (a++b)=false:=by
   intro a b ha hb
   induction a with
   |nil=>exact hb
   |cons x a iha=>simp only[Qi,Zs0,Zsr] at ha⊢;exact⟨ha.1,iha ha.2⟩
  exact app _ _ (Qnc p a d i) rfl
theorem Q7o(k:Nat)(a:Nat->Int)(d:Nat->List V)(i:Nat):(Kv k a d i).refs (fun f s=>f==k&&[9].contains s)=false:=by
 unfold Kv;split
 . rfl
 . simp only[V.refs,Qnc];simp
def Qlm(bv wv g o:V)(i:Nat):AM.Frame:=if i=0 then[(1,.cells [bv,wv]),(2,.cells [g,o]),(21,.grow 256)] else[(1,.cells [bv,wv]),(2,.cells [g,o]),(21,.grow 256),(58,.grow i)]
def Qs2(bv wv g o:V)(y:List V)(i:Nat):AM.Frame:=if i=0 then[(1,.cells [bv,wv]),(2,.cells [g,o]),(21,.grow 256)] else[(1,.cells [bv,wv]),(2,.cells [g,o]),(9,.cells y),(21,.grow 256),(58,.grow i)]
theorem Zam(bv wv g o:V)(y:List V)(i:Nat):Jb (fun s=>[9].contains s) (Qs2 bv wv g o y i)=Qlm bv wv g o i:=by unfold Qlm Qs2;split<;>rfl
theorem Qyz{cs:List V}{n i:Nat}{a:Int}{c:List V}{fl:Bool}(h:i<n)(hl:cs.length=n*2)(e1:cs[2*i]?=some (.int .i64 a))(e2:cs[2*i+1]?=some (.iS c 256 fl)):
 Qn Tryz.prog 112 cs ((i:Int).toNat*2)=some (.agg [.int .i64 a,.iS c 256 fl]):=by
 have e:(i:Int).toNat*2=2*i:=by omega
 rw[e,Q32,if_pos (by omega)];have g1:=Zsm.1 e1;have g2:=Zsm.1 e2;obtain⟨l1,g1⟩:=g1;obtain⟨l2,g2⟩:=g2;rw[Zue l1,Ztr,Zue l2,Ztr,List.take_zero,g1,g2]
def Qgk(bv wv g o:V)(y:List V)(i:Nat):AM.Frame:=if i=0 then[(1,.cells [bv,wv]),(2,.cells [g,o]),(9,.cells y),(21,.grow 256)] else[(1,.cells [bv,wv]),(2,.cells [g,o]),(9,.cells y),(21,.grow 256),(58,.grow i)]
def twF5(bv wv g o:V)(y:List V)(i:Nat):AM.Frame:=[(1,.cells [bv,wv]),(2,.cells [g,o]),(9,.cells y),(21,.grow 256),(58,.grow (i+1))]
theorem byW:byt Tryz.prog 112=some 32:=by kernel_rfl
theorem Q72(K:Heap)(bv wv g:V)(y:List V)(a:Nat->Int)(d:Nat->List V)(G:Heap)(i:Nat)(hi:i<4096):
 Qq Tryz.prog (Qg.mt 125) K.length (Qd (K++Qgk bv wv g (Kv K.length a d i) y i::G)) (some 58) 23 23 (Kv K.length a d i) (.iS [.int .i64 (a i),.iS (d i) 256 false] 1 true)=
  some (.val (Kv K.length a d (i+1)) (some (K.length,58,.grow (i+1)))):=by
 have g58:Qd (K++Qgk bv wv g (Kv K.length a d i) y i::G) K.length 58=if i=0 then none else some (.grow i):=by
  rw[J6];show Bi (Qgk bv wv g _ y i) 58=_;unfold Qgk;by_cases h:i=0
  . simp only[h,if_true];rfl
  . simp only[h,if_false];rfl
 have sc:∀g,Ql g 2 (.iS [.int .i64 (a i),.iS (d i) 256 false] 1 true)=some ([.int .i64 (a i),.iS (d i) 256 false],1):=fun g=>rfl;unfold Kv at g58⊢;rw[if_neg (Zud i),Qd1];by_cases h:i=0
 . subst h;simp only[if_true] at g58⊢;rw[Qbq Tryz.underlying23 Qjg byW Q4r rfl Tryz.underlying23 (sc _) (by decide) (by decide),Xc rfl rfl g58];rfl
 . simp only[h,if_false] at g58⊢;rw[Qa2 Tryz.underlying23 Qjg byW Q4r rfl Tryz.underlying23 (sc _) (by decide) (Jj (by omega) (by omega)) rfl rfl g58]
theorem Qr1{P:Program}{F:Func}{t:List V}{H:Heap}{a:Nat}{T:TypeId}{f s o:Nat}{xs:List V}{v:V}(hF:F.results.toList=[.cell a T])(ht:t.getD a .bad= .ptr f s o)(hg:Qd H f s=some (.cells xs))(hr:Qn P T xs o=some v):Xn P F t H=some v:=by
 have h1:Jv P t H (.cell a T)=some v:=by
  show(match t.getD a .bad with
   | .ptr f s o=>(match Qd H f s with
     |some (.cells xs)=>Qn P T xs o
     |_=>none)
   |_=>none)=_
  rw[ht];show(match Qd H f s with
   |some (.cells xs)=>Qn P T xs o
   |_=>none)=_
  rw[hg];exact hr
 have h2:Ks P t H [.cell a T]=some [v]:=by
  show(match Jv P t H (.cell a T),(some []:Option (List V)) with
   |some v,some vs=>some (v::vs)
   |_,_=>none)=_
  rw[h1]
 unfold Xn;rw[hF,h2]
theorem Q4l(K:Heap)(hw:WF K)(bv wv:V)(r:Nat->List V)(hb:Qor K bv r)(cs:List V)(n:Nat)(hv:Q0 2 wv cs n)(hn:n<=4096)(a:Nat->Int)(d:Nat->List V)
 (hwait:∀j,j<n->cs[2*j]?=some (.int .i64 (a j))/\∃fl,cs[2*j+1]?=some (.iS (d j) 256 fl))(hdata:∀j,j<n->Ju (d j)):
 CW Tryz.prog Qg 125 [.agg [bv,wv]] K fun rr K' =>rr= .ret (.agg [.gS (K.length+1) 33 (Kc (K.length+1) 256) 256 1,Kv K.length a d n])/\
  K' =K++[Qlm bv wv (.gS (K.length+1) 33 (Kc (K.length+1) 256) 256 1) (Kv K.length a d n) n,[(20,.cells (Bz r (zerosN [.int .u8 0] 65536) 256)),(33,.grow 256)]]:=by
 generalize hZ:zerosN [V.int .u8 0] 65536=Z;refine Kb Tryz.func125 rfl ?_;obtain⟨p,q,hp,hq,hfl⟩:=hb.ex;have len:=hb.len;have lw:=hv.len Tryz.underlying23;have wsc:wv.scalar=true:=Qlf hv;simp only[wA,↓Qc,simprocAttr,Tryz.ntmps125,ta,wG,wB,hb.sc,wsc,len];refine W.ul ?_;refine W.loopS (kt:=[1,2,3,11,12,13]) rfl (fun i:Nat=>Q4o (.ptr K.length 1 0) (.ptr K.length 2 0) (Qgv K.length i) bv (.int .i64 256) (.int .i64 i)) (fun i=>K++[Qiv bv wv i]) (fun i=>i<=256) (fun i=>256-i) ?_ 0 (by omega) rfl rfl;rintro i hi;simp only[Q4o];by_cases h:i<256
 . have c1:decide ((i:Int)<256)=true:=Zum (by omega);have w1:=Qau (i:=i) (by omega);obtain⟨fl,hfi⟩:=hfl i h;have hqi:=fun G=>hq i h G;rw[hfi] at hqi;have ap:Qq Tryz.prog (Qg.mt 125) K.length (Qd (K++[Qiv bv wv i])) (some 21) 32 32 (Qgv K.length i) (.iS [.int .i64 ((256:Nat):Int)] 1 true)=some (.val (Qgv K.length (i+1)) (some (K.length,21,.grow (i+1)))):=Q7w K bv wv i h;have mt20:Qg.mt 125 20=false:=rfl;have s21:hset (K++[Qiv bv wv i]) K.length 21 (.grow (i+1))=K++[Qiv bv wv (i+1)]:=by
    rw[X8];show K++[Kf (Qiv bv wv i) 21 _]=_;unfold Qiv;rw[if_neg (Zud i)];split<;>rfl
   simp only[Qmi,Qe2,Qfd,Zr,Q9,Y9,nov,gd,rho,Qu,wr,Nat.reduceAdd,Nat.reduceSub,if_true,if_false,reduceIte,reduceCtorEq,Nat.reduceLT,Nat.reduceEqDiff,Nat.reduceMul,Nat.reduceLeDiff,Qgq,Int.reduceBEq,Int.reduceBNe,Int.reduceLT,Int.reduceLE,↓Qc,c1,hp i h,hqi,ta,wB,w1,mt20,Q2,ap,s21,Tryz.underlying32];exact W.done ⟨i+1,rfl,rfl,by omega,by omega⟩
 . have c1:decide ((i:Int)<256)=false:=Zun (by omega);have hi2:i=256:=by omega
   subst hi2;simp only[wA,↓Qc,simprocAttr,c1];refine W.done ?_;have hwF:WF (K++[Qiv bv wv 256]):=by refine WF.app hw ?_;have b1:bv.refs (fun f _=>Nat.ble (K.length+1) f)=false:=Qbl (Qb3 (Nat.le_succ _)) bv hb.refs;have b2:wv.refs (fun f _=>Nat.ble (K.length+1) f)=false:=hv.noRefs _;show Qz (fun f _=>Nat.ble (K.length+1) f) [[(1,.cells [bv,wv]),(2,.cells [.nS,.nS]),(21,.grow 256)]]=true;simp only[Qz,Zb,O.refs,Qi,V.refs,b1,b2];rfl
   obtain⟨rr,KK,hcall,rfl,rfl⟩:=Zai (K++[Qiv bv wv 256]) hwF (.iS (Qr (rep 256)) 256 false) (rep 256) (Qod 256) (fun i hi=>Zd2 hi) (by
    have:=Ke.mk (rep 256) false
    rwa[Qod] at this)
   have hk1:(K++[Qiv bv wv 256]).length=K.length+1:=by simp
   have hcall' :callOp Qg (Qp Tryz.prog Qg) 125 K.length (some 24) 142 [Qgv K.length 256] (K++[Qiv bv wv 256])=
    some (.ret (.gS (K.length+1) 33 (Kc (K.length+1) 256) 256 1),K++[Qiv bv wv 256,[(20,.cells (zerosN [.int .u8 0] 65536)),(33,.grow 256)]]):=by
    refine Qng rfl rfl rfl (args' :=[.iS (Qr (rep 256)) 256 false]) ?_ ?_
    . have e:Qgv K.length 256= .gS K.length 21 (Qr (rep 256)) 256 1:=rfl;rw[e];have f1:frz (fun _ _=>none) 12 (.gS K.length 21 (Qr (rep 256)) 256 1)=(Qt (frz (fun _ _=>none) 11) (Qr (rep 256))).map fun cs=> .iS cs 256 false:=rfl;show Qt (frz (fun _ _=>none) 12) _=_;simp only[Qt,f1,Qhg (fun _ _=>none) 10,Zrb]
    . rw[hk1] at hcall;rw[hcall];simp
   rw[hZ] at hcall';have hF:Qiv bv wv 256=[(1,.cells [bv,wv]),(2,.cells [.nS,.nS]),(21,.grow 256)]:=rfl;rw[hF] at hcall' ⊢;simp only[wA,↓Qc,simprocAttr,hcall',ta,wG,wB,hb.sc,wsc,len];have hZl:Z.length=65536:=by rw[<-hZ];exact Qcs _ _
   have hr:∀j,j<256->(r j).length=256:=fun j hj=>(hb.rows j hj).1;refine W.ul ?_;refine W.loopS (kt:=[1,2,27,28,29]) rfl (fun i:Nat=>Q4h (.ptr K.length 1 0) (.ptr K.length 2 0) bv (.int .i64 256) (.int .i64 i))
    (fun i=>K++[[(1,.cells [bv,wv]),(2,.cells [.gS (K.length+1) 33 (Kc (K.length+1) 256) 256 1,.nS]),(21,.grow 256)],[(20,.cells (Bz r Z i)),(33,.grow 256)]]) (fun i=>i<=256) (fun i=>256-i) ?_ 0 (by omega) rfl (by rw[Q2l])
   rintro i hi;simp only[Q4h];by_cases h:i<256
   . have c1:decide ((i:Int)<256)=true:=Zum (by omega);have w1:=Qau (i:=i) (by omega);obtain⟨fl,hfi⟩:=hfl i h;have hqi:=fun G=>hq i h G;rw[hfi] at hqi;have at2:=at_r (P:=Tryz.prog) (u:=22) (k:= .i64) Tryz.underlying22 Qew (f:=K.length+1) (s:=33) (len:=256) (i:=(i:Int)) (Q02 (K.length+1)) (by omega) (by omega);have gr:(Kc (K.length+1) 256)[(i:Int).toNat*1]?=some (.mS (K.length+1) 20 (256*i) 256 (some 256) 1):=by
      have e:(i:Int).toNat*1=i:=by omega
      rw[e];exact Q5o _ h
     have hlen:=Qf5 (r:=r) hZl hi hr;have cp:=fun(g:Get) (hg:g (K.length+1) 20=some (.cells (Bz r Z i)))=>Zb3 (fl:=fl) (hb.rows i h) hg (o:=256*i) (by rw[hlen];omega);have sp:=Qvk hZl h hr;rw[sp] at cp;generalize hD:Bz r Z i=D at cp⊢;generalize hD2:Bz r Z (i+1)=D2 at cp⊢;have cp' :=cp (Qd (K++[[(1,.cells [bv,wv]),(2,.cells [.gS (K.length+1) 33 (Kc (K.length+1) 256) 256 1,.nS]),(21,.grow 256)],[(20,.cells D),(33,.grow 256)]])) (by rw[Qo8];rfl);generalize hR:Kc (K.length+1) 256=R at at2 gr cp' ⊢;simp only[wA,↓Qc,simprocAttr,c1,hp i h,hqi,ta,wG,w1,at2,Zc9,gr,Quw,cp'];subst hD2;exact W.done ⟨i+1,rfl,rfl,by omega,by omega⟩
   have c1:decide ((i:Int)<256)=false:=Zun (by omega);have hi2:i=256:=by omega
   subst hi2;have hDr:∀p:Nat->Nat->Bool,Qi p (Bz r Z 256)=false:=fun p=>Q3c p (fun j hj=>(hb.rows j hj).2) (by rw[<-hZ];exact fun q=>Qns _ _ _ rfl);generalize hD:Bz r Z 256=D at hDr⊢;have hRr:∀p:Nat->Nat->Bool,p (K.length+1) 20=false->Qi p (Kc (K.length+1) 256)=false:=fun p hp=>Qpy _ _ _ hp;generalize hR:Kc (K.length+1) 256=R at hRr⊢;simp only[wA,↓Qc,simprocAttr,c1];refine W.done ?_;simp only[wA,↓Qc,simprocAttr,ta,wG,wB,hb.sc,wsc,len,lw];refine W.ul ?_;refine W.loop (fun(i:Nat) t H=>∃y:List V,Yf [2,43,44,45] t 0=Qo3 (.ptr K.length 2 0) wv (.int .i64 n) (.int .i64 i)/\i<=n/\H=K++[Qs2 bv wv (.gS (K.length+1) 33 R 256 1) (Kv K.length a d i) y i,[(20,.cells D),(33,.grow 256)]]/\Qi (fun f s=>f==K.length&&[9].contains s) y=false)
    (fun i=>n-i) ?_ 0 ⟨[],rfl,by omega,rfl,rfl⟩ rfl
   rintro i t H ⟨y,ht,hi,rfl,hy⟩;have hd:(K++[Qs2 bv wv (.gS (K.length+1) 33 R 256 1) (Kv K.length a d i) y i,[(20,.cells D),(33,.grow 256)]]).modify K.length (Jb fun s=>[9].contains s)=K++[Qlm bv wv (.gS (K.length+1) 33 R 256 1) (Kv K.length a d i) i,[(20,.cells D),(33,.grow 256)]]:=by have:=Qdr (Jb fun s=>[9].contains s) K [Qs2 bv wv (.gS (K.length+1) 33 R 256 1) (Kv K.length a d i) y i,[(20,.cells D),(33,.grow 256)]] 0;exact this.trans (by rw[<-Zam bv wv _ _ y i];rfl)
   have bvr:bv.refs (fun f s=>f==K.length&&[9].contains s)=false:=Qbl (fun f s h=>by simp at h;simp;omega) bv hb.refs;have wvr:wv.refs (fun f s=>f==K.length&&[9].contains s)=false:=hv.noRefs _;have Rr:=hRr (fun f s=>f==K.length&&[9].contains s) (by simp);have Dr:=hDr (fun f s=>f==K.length&&[9].contains s);have or_:=Q7o K.length a d i;refine⟨_,_,Jh (kt:=[2,43,44,45]) (ds:=[9]) rfl ?_ ?_,?_⟩
   . rw[ht];simp only[Qo3,Qi,V.refs,wvr];simp
   . rw[hd,B9,Qg4 hw (fun f s h=>by simp at h;omega)];unfold Qlm;split<;>simp only[Qz,Zb,O.refs,Qi,V.refs,bvr,wvr,Rr,Dr,or_]<;>simp
   rw[ht,hd];simp only[Qo3];by_cases h:i<n
   . have c1:decide ((i:Int)<n)=true:=Zum (by omega);have w1:=Qau (i:=i) (by omega);obtain⟨e1,fl,e2⟩:=hwait i h;have at1:=hv.at (k:= .i64) Tryz.underlying23 Qjg (by decide) (i:=(i:Int)) (by omega) (by omega);have ldw:=Qyz h hv.1 e1 e2;obtain⟨m,rfl,hm⟩:=(Qxo (d i) fl (hdata i h)).op (by rfl) rfl;have hm' :∀s H,_:=fun s H=>hm 125 K.length s H rfl;have n9:Qd (K++[Qlm bv wv (.gS (K.length+1) 33 R 256 1) (Kv K.length a d i) i,[(20,.cells D),(33,.grow 256)]]) K.length 9=none:=by
      rw[J6];show Bi (Qlm bv wv _ _ i) 9=none;unfold Qlm;split<;>rfl
     have s9:∀x,hset (K++[Qlm bv wv (.gS (K.length+1) 33 R 256 1) (Kv K.length a d i) i,[(20,.cells D),(33,.grow 256)]]) K.length 9 (.cells x)=K++[Qgk bv wv (.gS (K.length+1) 33 R 256 1) (Kv K.length a d i) x i,[(20,.cells D),(33,.grow 256)]]:=fun x=>by rw[X8];show K++[Kf (Qlm bv wv _ _ i) 9 _,_]=_;unfold Qlm Qgk;split<;>rfl
     have s9' :∀x z,hset (K++[Qgk bv wv (.gS (K.length+1) 33 R 256 1) (Kv K.length a d i) x i,[(20,.cells D),(33,.grow 256)]]) K.length 9 (.cells z)=K++[Qgk bv wv (.gS (K.length+1) 33 R 256 1) (Kv K.length a d i) z i,[(20,.cells D),(33,.grow 256)]]:=fun x z=>by rw[X8];show K++[Kf (Qgk bv wv _ _ x i) 9 _,_]=_;unfold Qgk;split<;>rfl
     have g9:∀x,Qd (K++[Qgk bv wv (.gS (K.length+1) 33 R 256 1) (Kv K.length a d i) x i,[(20,.cells D),(33,.grow 256)]]) K.length 9=some (.cells x):=fun x=>by rw[J6];show Bi (Qgk bv wv _ _ x i) 9=_;unfold Qgk;split<;>rfl
     have g2:∀x,Qd (K++[Qgk bv wv (.gS (K.length+1) 33 R 256 1) (Kv K.length a d i) x i,[(20,.cells D),(33,.grow 256)]]) K.length 2=some (.cells [.gS (K.length+1) 33 R 256 1,Kv K.length a d i]):=fun x=>by rw[J6];show Bi (Qgk bv wv _ _ x i) 2=_;unfold Qgk;split<;>rfl
     have ap:=Q72 K bv wv (.gS (K.length+1) 33 R 256 1) [.int .i64 (a i),.iS (d i) 256 fl] a d [[(20,.cells D),(33,.grow 256)]] i (by omega);have s58:∀x,hset (K++[Qgk bv wv (.gS (K.length+1) 33 R 256 1) (Kv K.length a d i) x i,[(20,.cells D),(33,.grow 256)]]) K.length 58 (.grow (i+1))=K++[twF5 bv wv (.gS (K.length+1) 33 R 256 1) (Kv K.length a d i) x i,[(20,.cells D),(33,.grow 256)]]:=fun x=>by rw[X8];show K++[Kf (Qgk bv wv _ _ x i) 58 _,_]=_;unfold Qgk twF5;split<;>rfl
     have g2' :∀x,Qd (K++[twF5 bv wv (.gS (K.length+1) 33 R 256 1) (Kv K.length a d i) x i,[(20,.cells D),(33,.grow 256)]]) K.length 2=some (.cells [.gS (K.length+1) 33 R 256 1,Kv K.length a d i]):=fun x=>by rw[J6];rfl
     have s2:∀x o,hset (K++[twF5 bv wv (.gS (K.length+1) 33 R 256 1) (Kv K.length a d i) x i,[(20,.cells D),(33,.grow 256)]]) K.length 2 (.cells [.gS (K.length+1) 33 R 256 1,o])=K++[Qs2 bv wv (.gS (K.length+1) 33 R 256 1) o x (i+1),[(20,.cells D),(33,.grow 256)]]:=fun x o=>by rw[X8];rfl
     have mt57:Qg.mt 125 57=false:=rfl;have scw:(Kv K.length a d (i+1)).scalar=true:=by unfold Kv;rw[if_neg (Zud i)];rfl
     have scw0:(Kv K.length a d i).scalar=true:=by unfold Kv;split<;>rfl
     have wcl:(Kv K.length a d (i+1)).cells=some [Kv K.length a d (i+1)]:=by unfold Kv;rw[if_neg (Zud i)];rfl
     simp only[wA,↓Qc,simprocAttr,c1,at1,ldw,ta,wB,w1,wcl,new,n9,s9,s9',g9,g2,hm',mt57,Q2,ap,s58,g2',s2,scw,scw0,Tryz.underlying23];refine W.opsK (by kernel_rfl) ?_;simp only[wA,↓Qc,simprocAttr,w1];exact W.done ⟨i+1,⟨_,rfl,by omega,rfl,by simp[Qi,V.refs]⟩,by omega⟩
   . have c1:decide ((i:Int)<n)=false:=Zun (by omega);have hi2:i=n:=by omega
     subst hi2;simp only[wA,↓Qc,simprocAttr,c1];refine W.done ?_;simp only[wA,↓Qc,simprocAttr];refine W.done (End.ret (v:= .agg [.gS (K.length+1) 33 R 256 1,Kv K.length a d i]) ?_ ?_)
     . refine Qr1 (xs:=[.gS (K.length+1) 33 R 256 1,Kv K.length a d i]) rfl rfl ?_ (by rw[rd25];rfl);rw[J6];show Bi (Qlm bv wv _ _ i) 2=_;unfold Qlm;split<;>rfl
     . rw[K3 (by simp[V.refs,Qi])];exact⟨rfl,by rw[<-hR,<-hD]⟩
def Q1y(r:Nat->List V)(a:Nat->Int)(d:Nat->List V)(n:Nat):V:=
 .agg [.iS ((List.range 256).map fun j=> .iS (r j) 256 true) 256 false,if n=0 then .nS else .iS (Qb9 a d n) n false]
theorem Q7v{r:Nat->List V}{Z:List V}(h:∀j,j<256->(r j).length=256){i:Nat}(hi:i<256):((Bz r Z 256).drop (256*i)).take 256=r i:=by
 have key:∀m,m<=256->i<m->∀T:List V,((((List.range m).map r).flatten++T).drop (256*i)).take 256=r i:=by
  intro m
  induction m with
  |zero=>intro _ h;omega
  |succ m ih=>
   intro hm him T;rw[Zuc,Zua,Zsj,Zsz];by_cases e:i=m
   . subst e;have hf:=Qef (r:=r) (i:=i) (fun j hj=>h j (by omega));rw[List.drop_append,hf,Zt5,Ztt (by rw[hf];exact Zrf _)];simp only[Zrw,Zsc,List.flatten_cons,List.flatten_nil,Zsp,Zti,Ztu];exact List.take_left' (h i (by omega))
   . exact ih (by omega) (by omega) _
 exact key 256 (Zrf _) hi _
theorem Qnw(K:Heap)(rv:List V)(fl:Bool)(r:Nat->List V)(hl:rv.length=256)(hr:∀i,i<256->∃f,rv[i]?=some (.iS (r i) 256 f))(hrow:∀i,i<256->Ju (r i)):Qor K (.iS rv 256 fl) r:=by
 have hs:Q0 1 (.iS rv 256 fl) rv 256:=Q0.mk (by rw[hl]);refine⟨fun g=>hs.len Tryz.underlying22 g,⟨fun i=> .iptr rv i,fun i=>rv.getD i .bad,fun i hi=>?_,fun i hi G=>?_,fun i hi=>?_⟩,hrow,rfl,rfl,rfl⟩
 . have:=hs.at (k:= .i64) Tryz.underlying22 Qew (by decide) (i:=(i:Int)) (by omega) (by omega);rw[this];have e:(i:Int).toNat*1=i:=by omega
   rw[e]
 . obtain⟨f,hf⟩:=hr i hi;show Qn Tryz.prog 26 rv i=_;rw[rd26,hf];simp[List.getD,hf]
 . obtain⟨f,hf⟩:=hr i hi;exact⟨f,by simp[List.getD,hf]⟩
theorem Qxt{g:Get}{n:Nat}{f h:Nat->V}:∀(l:List Nat),(∀j∈l,frz g n (f j)=some (h j))->Qt (frz g n) (l.map f)=some (l.map h)
 |[],_=>rfl
 |j::l,e=>by
  simp only[Zrw,Qt,e j (by simp),Qxt l (fun k hk=>e k (by simp[hk]))]
theorem Qqi(g:Get)(m:Nat)(a:Nat->Int)(d:Nat->List V):∀n,Qt (frz g (m+1)) (Qb9 a d n)=some (Qb9 a d n)
 |0=>rfl
 |n+1=>by
  have app:∀(l k l' k' :List V),Qt (frz g (m+1)) l=some l' ->Qt (frz g (m+1)) k=some k' ->Qt (frz g (m+1)) (l++k)=some (l' ++k'):=by
   intro l
   induction l with
   |nil=>intro k l' k' h1 h2;cases h1;exact h2
   |cons x l ih=>
    intro k l' k' h1 h2;simp only[Qt,Zs0] at h1⊢;cases hx:frz g (m+1) x with
    |none=>rw[hx] at h1;cases h1
    |some y=>
     rw[hx] at h1;cases hl:Qt (frz g (m+1)) l with
     |none=>rw[hl] at h1;cases h1
     |some ys=>rw[hl] at h1;cases h1;rw[ih k ys k' hl h2];rfl
  rw[Qd1];exact app _ _ _ _ (Qqi g m a d n) rfl
theorem Qqs(k:Nat)(H:Heap)(r:Nat->List V)(Z:List V)(a:Nat->Int)(d:Nat->List V)(n:Nat)(hrow:∀i,i<256->Ju (r i))(hZ:Z.length=65536)(hg:Qd H (k+1) 20=some (.cells (Bz r Z 256))):
 frz (Qd H) depth (.agg [.gS (k+1) 33 (Kc (k+1) 256) 256 1,Kv k a d n])=some (Q1y r a d n):=by
 have hr:∀j,j<256->(r j).length=256:=fun j hj=>(hrow j hj).1;have hl:=Qf5 (r:=r) hZ (Zrf 256) hr;have row:∀j∈List.range 256,frz (Qd H) 10 (.mS (k+1) 20 (256*j) 256 (some 256) 1)=some (.iS (r j) 256 true):=by intro j hj;have hj' :j<256:=Zs8.1 hj;have e:((Bz r Z 256).drop (256*j)).take (256*1)=r j:=Q7v hr hj';have:=Qml (g:=Qd H) (f:=k+1) (s:=20) (o:=256*j) (len:=256) (esz:=1) (cap:=some 256) (xs:=Bz r Z 256) (m:=8) hg (by rw[hl];omega) (by rw[e];exact Qde _ _ (hrow j hj').2);rw[e] at this;exact this
 have rows:=Qxt (List.range 256) row;have g1:frz (Qd H) 11 (.gS (k+1) 33 (Kc (k+1) 256) 256 1)=some (.iS ((List.range 256).map fun j=> .iS (r j) 256 true) 256 false):=by have e:frz (Qd H) 11 (.gS (k+1) 33 (Kc (k+1) 256) 256 1)=(Qt (frz (Qd H) 10) (Kc (k+1) 256)).map fun cs=> .iS cs 256 false:=rfl;rw[e];unfold Kc;rw[rows];rfl
 have g2:frz (Qd H) 11 (Kv k a d n)=some (if n=0 then .nS else .iS (Qb9 a d n) n false):=by
  unfold Kv;by_cases h:n=0
  . simp only[h,if_true];rfl
  . simp only[h,if_false];have e:frz (Qd H) 11 (.gS k 58 (Qb9 a d n) n 2)=(Qt (frz (Qd H) 10) (Qb9 a d n)).map fun cs=> .iS cs n false:=rfl;rw[e,Qqi];rfl
 have e:frz (Qd H) depth (.agg [.gS (k+1) 33 (Kc (k+1) 256) 256 1,Kv k a d n])=(Qt (frz (Qd H) 11) [.gS (k+1) 33 (Kc (k+1) 256) 256 1,Kv k a d n]).map .agg:=rfl;rw[e];simp only[Qt,g1,g2,Zrb];rfl
theorem Zcc(rv:List V)(fl:Bool)(r:Nat->List V)(hl:rv.length=256)(hr:∀i,i<256->∃f,rv[i]?=some (.iS (r i) 256 f))(hrow:∀i,i<256->Ju (r i))(wv:V)(cs:List V)(n:Nat)(hv:Q0 2 wv cs n)(hn:n<=4096)(a:Nat->Int)(d:Nat->List V)
 (hwait:∀j,j<n->cs[2*j]?=some (.int .i64 (a j))/\∃fl,cs[2*j+1]?=some (.iS (d j) 256 fl))(hdata:∀j,j<n->Ju (d j)):
 Fz Tryz.prog Qg 125 [.agg [.iS rv 256 fl,wv]] fun x=>x=Q1y r a d n:=by
 refine Fz.of_cw ((Q4l [] WF.nil _ wv r (Qnw [] rv fl r hl hr hrow) cs n hv hn a d hwait hdata).mono ?_);rintro rr H' ⟨rfl,rfl⟩;refine⟨_,rfl,_,?_,rfl⟩;exact Qqs 0 _ r (zerosN [.int .u8 0] 65536) a d n hrow (Qcs _ _) rfl
end
end Go.Proofs.YtidniacddkalaaaGreatDoor
