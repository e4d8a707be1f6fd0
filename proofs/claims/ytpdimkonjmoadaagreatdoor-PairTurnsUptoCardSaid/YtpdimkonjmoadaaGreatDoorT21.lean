/- This file holds in one the texts D1, D2, D3, D4, D5, D6, D7, D8; each says at its head what it proves. -/
import Derived.Test.YtpdimkonjmoadaaGreatDoorT12
import Derived.Test.YtpdimkonjmoadaaGreatDoorT20
set_option linter.unusedSimpArgs false
set_option linter.unusedVariables false
namespace Go.Proofs.YtpdimkonjmoadaaGreatDoor
section
set_option maxRecDepth 100000
open Go.AM
attribute [local irreducible] U W
theorem by27:byt Tp 23=some 24:=by kernel_rfl
theorem by8:byt Tp 5=some 1:=by kernel_rfl
theorem by64:byt Tp 3=some 8:=by kernel_rfl
def Kb(k:Nat)(i:Nat):List V:=(List.range i).map fun j=> .mS k 20 (256*j) 256 (some 256) 1
theorem Q1h(k i:Nat):Kb k (i+1)=Kb k i++[.mS k 20 (256*i) 256 (some 256) 1]:=by simp[Kb,Zsk]
theorem Qpb(k i:Nat)(p:Nat->Nat->Bool)(h:p k 20=false):Qh p (Kb k i)=false:=by
 have:∀l:List Nat,Qh p (l.map fun j=>V.mS k 20 (256*j) 256 (some 256) 1)=false:=by
  intro l
  induction l with
  |nil=>rfl
  |cons j l ih=>simp only[Zp4,Qh,V.refs,h,ih,Zsl]
 exact this _
def Qrb(k i:Nat):V:= .mS k 20 (if i<256 then 256*i else 65280) (65536-256*i) (some (65536-256*i)) 1
theorem Qd0{K:Heap}(hw:WF K){p:Nat->Nat->Bool}(hp:∀f s,p f s=true->K.length<=f):Zb p K=true:=by refine Qgw (fun f s h=>?_) K hw;simp only[Nat.ble_eq];exact hp f s h
theorem ms_of{P:Program}{pol:Pol}{fn fr:Nat}{g:Get}{r:Operand->V}{d:Nat}{ty t e:TypeId}{ps:String}{af:Array Edge}{gd:Option (Nat×Bool)}{l c:Operand}{n k b:Nat}{z:List V}(hu:P.underlying t=some (.slice e))(hs:sz P e=some k)(hb:byt P e=some b)(hz:zeroCells P e=some z)(hzl:z.length=k)
 (hl:r l= .int .i64 n)(hc:r c= .int .i64 n)(hr:J6 n b=true)(hg:g fr d=none):
 Zm P (pol.mt fn) fr g r {dst:=some d,op:= .makeSlice t l c,type:=ty,pos:=ps,after:=af,guard:=gd}=some (.val (.mS fr d 0 n (some n) k) (some (fr,d,.cells (zerosN z n)))):=by
 simp only[Zm,hu,hs,hb,hz,hl,hc];rw[if_pos ⟨by omega,Int.le_refl _,by simpa using hr,hzl⟩];simp[new,hg]
def Qwm(k i:Nat):V:=if i=0 then .nS else .gS k 33 (Kb k i) i 1
def frM(Z:List V)(i:Nat):AM.Frame:=if i=0 then[(20,.cells Z)] else[(20,.cells Z),(33,.grow i)]
def Q1e(Z:List V)(x:V)(i:Nat):AM.Frame:=if i=0 then[(20,.cells Z)] else[(20,.cells Z),(32,.cells [x]),(33,.grow i)]
theorem Zbp(Z:List V)(x:V)(i:Nat):Jk (fun s=>[32].contains s) (Q1e Z x i)=frM Z i:=by unfold frM Q1e;split<;>rfl
theorem Q8p{P:Program}{u e:TypeId}(hu:P.underlying u=some (.slice e)){q:Nat}(hs:sz P e=some q){g:Get}{f s o len c n:Nat}{k:IntKind}(h:n<=c):
 Z9 P g u (.mS f s o len (some c) q) none (some (.int k n)) (some (.int k n))=some (.mS f s o n (some n) q):=by
 simp only[Z9,By,hu,hs,if_true,Qsm,Qat,Zqi,Zqs];rw[if_pos ⟨by omega,by omega,by omega,by omega,by omega,by omega,by simp⟩];simp
theorem Zeg(K:Heap)(Z:List V)(i:Nat)(hi:i<256)(x:V)(hx:x.scalar=true):
 Qp Tp (Qf.mt 107) K.length (Qd (K++[J3 (frM Z i) 32 (.cells [x])])) (some 33) 52 52 (Qwm K.length i) (.mS K.length 32 0 1 (some 1) 1)=
  some (.val (if i=0 then .gS K.length 33 [x] 1 1 else .gS K.length 33 (Kb K.length i++[x]) (i+1) 1) (some (K.length,33,.grow (i+1)))):=by
 have g32:Qd (K++[J3 (frM Z i) 32 (.cells [x])]) K.length 32=some (.cells [x]):=by rw[J2];show Xf (J3 (frM Z i) 32 _) 32=_;rw[Qas];rfl
 have g33:Qd (K++[J3 (frM Z i) 32 (.cells [x])]) K.length 33=if i=0 then none else some (.grow i):=by
  rw[J2];show Xf (J3 (frM Z i) 32 _) 33=_;rw[Qas,if_neg (by decide)];unfold frM;by_cases h:i=0
  . simp only[h,if_true];rfl
  . simp only[h,if_false];rfl
 have sc:Qj (Qd (K++[J3 (frM Z i) 32 (.cells [x])])) 1 (.mS K.length 32 0 1 (some 1) 1)=some ([x],1):=by simp only[Qj,g32];rfl
 have hsc:([x]:List V).all V.scalar=true:=by simp[hx]
 unfold Qwm;by_cases h:i=0
 . subst h;simp only[if_true] at g33⊢;rw[Qbu Zu1 Qah by27 Qrt rfl Zu1 sc (by decide) (by decide)];simp[grown,(Qej (by decide) rfl:Qf.mt 107 33=false),new,g33]
 . simp only[h,if_false] at g33⊢;have hr:J6 (i+1) 24=true:=Jg (by omega) (by omega);simp only[Qp,Zu1,Qah,by27,Qrt,Jp,sc,appendTo,hr,hsc,g33,Zq2,Zq4,if_true,and_self]
theorem Qg1(p:Nat->Nat->Bool)(z:List V)(n:Nat)(h:Qh p z=false):Qh p (zerosN z n)=false:=by
 induction n with
 |zero=>rfl
 |succ n ih=>
  have app:∀a b:List V,Qh p a=false->Qh p b=false->Qh p (a++b)=false:=by
   intro a b ha hb
   induction a with
   |nil=>exact hb
   |cons x a iha=>simp only[Qh,Zqo,Zqe] at ha⊢;exact⟨ha.1,iha ha.2⟩
  exact app _ _ h ih
theorem Zat(K:Heap)(hw:WF K)(v:V)(L:List Int)(hl:L.length=256)(hL:∀i,i<256->L[i]?=some 256)(hv:Ke v L):
 CW Tp Qf 107 [v] K fun r K' =>r= .ret (.gS K.length 33 (Kb K.length 256) 256 1)/\K' =K++[[(20,.cells (zerosN [.int .u8 0] 65536)),(33,.grow 256)]]:=by
 refine Ye Tryz.func107 rfl ?_;have len:=hv.len Zu2;rw[hl] at len;have at0:∀i:Nat,i<256->Qu Tp 34 v (.int .i64 i)=some (.iptr (Qm L) ((i:Int).toNat*1)):=fun i h=>by exact hv.at Zu2 sz3 (by decide) (by omega) (by rw[hl];omega)
 have get0:∀i:Nat,i<256->(Qm L)[(i:Int).toNat*1]?=some (.int .i64 256):=fun i h=>by rw[Qq2];simp[hL i h]
 simp only[wS,simprocAttr,Tryz.ntmps107,len];refine W.ul ?_;refine W.loopS (kt:=[0,2,3,9,10,11]) rfl (fun i:Nat=>Qoj v .nS (.int .i64 ((256*i:Nat):Int)) v (.int .i64 ((256:Nat):Int)) (.int .i64 i)) (fun _=>K++[[]]) (fun i=>i<=256) (fun i=>256-i) ?_ 0 (by omega) rfl rfl;rintro i hi;simp only[Qoj];by_cases h:i<256
 . have c1:decide ((i:Int)<((256:Nat):Int))=true:=Zsw (by omega);have w1:=Y1 (i:=i) (by omega);have w2:(IntKind.i64).wrap (((256*i:Nat):Int)+256)=((256*(i+1):Nat):Int):=by rw[wrap_i64]<;>omega
   simp only[Qki,Qdc,Qc8,Zm,Q9,Yy,nov,gd,rho,Qs,wr,Nat.reduceAdd,Nat.reduceSub,if_true,if_false,reduceIte,reduceCtorEq,Nat.reduceLT,Nat.reduceEqDiff,Nat.reduceMul,Nat.reduceLeDiff,c1,at0 i h,rd3,get0 i h,w1,w2];exact W.done ⟨i+1,rfl,rfl,by omega,by omega⟩
 . have c1:decide ((i:Int)<((256:Nat):Int))=false:=Zsx (by omega);have hi2:i=256:=by omega
   subst hi2;simp only[wS,simprocAttr,c1];refine W.done ?_;have e1:((256*256:Nat):Int)=65536:=rfl;have rm:J6 65536 1=true:=by decide
   generalize hZ:zerosN [V.int .u8 0] 65536=Z;have hZ' :zerosN [V.int .u8 0] (65536:Int).toNat=Z:=hZ;simp only[wS,simprocAttr,e1,Zu0,sz5,by8,zc5,Int.reduceLE,Int.reduceToNat,rm,and_self,wG,len,hZ,hZ'];refine W.ul ?_;have hk32:∀i,(Qwm K.length i).refs (fun f s=>f==K.length&&[32].contains s)=false:=by
    intro i;unfold Qwm;split
    . rfl
    . have:=Qpb K.length i (fun f s=>f==K.length&&[32].contains s) (by simp);simp only[V.refs,this];simp
   refine W.loop (fun(i:Nat) t H=>∃x:V,Jj [2,6,21,22,23] t 0=Qib (Qwm K.length i) (Qrb K.length i) v (.int .i64 ((256:Nat):Int)) (.int .i64 i)/\i<=256/\H=K++[Q1e Z x i]/\x.refs (fun f s=>f==K.length&&[32].contains s)=false)
    (fun i=>256-i) ?_ 0 ⟨.bad,rfl,by omega,rfl,rfl⟩ rfl
   rintro i t H ⟨x,ht,hi,rfl,hx⟩;have vr:v.refs (fun f s=>f==K.length&&[32].contains s)=false:=hv.noRefs _;have zr:Qh (fun f s=>f==K.length&&[32].contains s) Z=false:=by rw[<-hZ];exact Qg1 _ _ _ rfl
   have hd:(K++[Q1e Z x i]).modify K.length (Jk fun s=>[32].contains s)=K++[frM Z i]:=by have:=Qdp (Jk fun s=>[32].contains s) K [Q1e Z x i] 0;rw[Zsa] at this;rw[this,<-Zbp Z x i];rfl
   refine⟨_,_,Zq (kt:=[2,6,21,22,23]) (ds:=[32]) rfl ?_ ?_,?_⟩
   . rw[ht];simp only[Qib,Qh,V.refs,hk32 i,vr,Qrb];simp
   . rw[hd,B5,Qd0 hw (fun f s h=>by simp at h;omega)];unfold frM;split<;>simp only[Zb,Q0,O.refs,zr]<;>rfl
   rw[ht,hd];simp only[Qib];by_cases h:i<256
   . have c1:decide ((i:Int)<((256:Nat):Int))=true:=Zsw (by omega);have w1:=Y1 (i:=i) (by omega);have rs:Qrb K.length i= .mS K.length 20 (256*i) (65536-256*i) (some (65536-256*i)) 1:=by simp only[Qrb,h,if_true]
     have rs2:V.mS K.length 20 (if 65536-256*i=256 then 256*i else 256*i+256*1) (65536-256*i-256) (some (65536-256*i-256)) 1=Qrb K.length (i+1):=by
      unfold Qrb;have e1:65536-256*i-256=65536-256*(i+1):=by omega
      rw[e1];congr 1;by_cases h2:i=255
      . subst h2;rfl
      . rw[if_neg (by omega),if_pos (by omega)];omega
     have sl1:∀g,Z9 Tp g 23 (.mS K.length 20 (256*i) (65536-256*i) (some (65536-256*i)) 1) none (some (.int .i64 256)) (some (.int .i64 256))=some (.mS K.length 20 (256*i) 256 (some 256) 1):=
      fun g=>Q8p (n:=256) Zu0 sz5 (by omega)
     have sl2:∀g,Z9 Tp g 23 (.mS K.length 20 (256*i) (65536-256*i) (some (65536-256*i)) 1) (some (.int .i64 256)) none none=some (Qrb K.length (i+1)):=fun g=>by rw[<-rs2];exact Qq7 (w:=256) Zu0 sz5 (by omega) (by omega) g
     have n32:Qd (K++[frM Z i]) K.length 32=none:=by rw[J2];show Xf (frM Z i) 32=none;unfold frM;split<;>rfl
     have s32:∀o,hset (K++[frM Z i]) K.length 32 o=K++[J3 (frM Z i) 32 o]:=fun o=>Xx _ _ _ _;have s33:∀y,hset (K++[J3 (frM Z i) 32 (.cells [y])]) K.length 33 (.grow (i+1))=K++[Q1e Z y (i+1)]:=fun y=>by rw[Xx];show K++[J3 (J3 (frM Z i) 32 _) 33 _]=_;unfold frM Q1e;rw[if_neg (Zsm i)];split<;>rfl
     have ap:=Zeg K Z i h (.mS K.length 20 (256*i) 256 (some 256) 1) rfl;have eo:(if i=0 then V.gS K.length 33 [.mS K.length 20 (256*i) 256 (some 256) 1] 1 1 else .gS K.length 33 (Kb K.length i++[.mS K.length 20 (256*i) 256 (some 256) 1]) (i+1) 1)=Qwm K.length (i+1):=by
      unfold Qwm;rw[if_neg (Zsm i),Q1h];by_cases h0:i=0
      . subst h0;rfl
      . rw[if_neg h0]
     rw[eo] at ap;have mt32:Qf.mt 107 32=true:=rfl;have get1:(Qm L)[(i:Int).toNat]?=some (.int .i64 256):=by have:=get0 i h;rwa[Zp7] at this
     rw[rs];simp only[Qki,Qdc,Qc8,Zm,Q9,Yy,nov,gd,rho,Qs,wr,Nat.reduceAdd,Nat.reduceSub,if_true,if_false,reduceIte,reduceCtorEq,Nat.reduceLT,Nat.reduceEqDiff,Nat.reduceMul,Nat.reduceLeDiff,c1,at0 i h,rd3,get0 i h,get1,w1,sl1,sl2,Zu1,Qah,Qrt,mt32,new,n32,s32,Q3,ap,s33,wB];exact W.done ⟨i+1,⟨_,rfl,by omega,rfl,by simp[V.refs]⟩,by omega⟩
   . have c1:decide ((i:Int)<((256:Nat):Int))=false:=Zsx (by omega);have hi2:i=256:=by omega
     subst hi2;simp only[wS,simprocAttr,c1];refine W.done ?_;simp only[wS,simprocAttr];refine W.done (End.ret (v:=Qwm K.length 256) rfl ?_);rw[Z2 (by simp[Qwm,V.refs])];exact⟨rfl,rfl⟩
def Qi6:V->Bool
 | .int _ _=>true
 |_=>false
def J1(c:List V):Prop:=c.length=256/\c.all Qi6=true
theorem Qva{x:V}(h:Qi6 x=true):x.scalar=true:=by cases x<;>first|rfl|cases h
theorem Qnf{c:List V}(h:c.all Qi6=true):c.all V.scalar=true:=by rw[Zqt] at h⊢;exact fun x hx=>Qva (h x hx)
theorem Ql9(p:Nat->Nat->Bool):∀{c:List V},c.all Qi6=true->Qh p c=false
 |[],_=>rfl
 |x::c,h=>by
  simp only[Zr7,Zqf] at h;simp only[Qh,Ql9 p h.2,Zsi];cases x<;>first|rfl|(cases h.1)
theorem Zaq(K:Heap)(c:List V)(fl:Bool)(hc:J1 c):
 CW Tp Qf 52 [.iS c 256 fl] K fun r K' =>r= .ret (.mS K.length 7 0 256 none 1)/\K' =K++[[(5,.cells []),(7,.cells c)]]:=by
 refine Ye Tryz.func52 rfl ?_;have nn:=Je (P:=Tp) (t:=23) Zu0 (x:= .tmp 3) (y:= .const (.slice none 0 0)) (cs:=c) (n:=256) (f:=fl);have mt5:Qf.mt 52 5=true:=rfl;have mt7:Qf.mt 52 7=true:=rfl;have sc:∀g,Qj g 1 (.iS c 256 fl)=some (c,256):=fun g=>by simp[Qj,hc.1]
 have s5:hset (K++[[]]) K.length 5 (.cells [])=K++[[(5,.cells [])]]:=by rw[Xx];rfl
 have n5:Qd (K++[[]]) K.length 5=none:=by rw[J2];rfl
 have n7:Qd (K++[[(5,O.cells [])]]) K.length 7=none:=by rw[J2];rfl
 have g5:Qd (K++[[(5,O.cells [])]]) K.length 5=some (.cells []):=by rw[J2];rfl
 have ap:Qp Tp (Qf.mt 52) K.length (Qd (K++[[(5,O.cells [])]])) (some 7) 23 23 (.mS K.length 5 0 0 (some 0) 1) (.iS c 256 fl)=some (.val (.mS K.length 7 0 256 none 1) (some (K.length,7,.cells c))):=by simp only[Qp,Zu0,sz5,by8,zc5,Jp,sc,appendTo,g5];simp[grown,mt7,new,n7,Qnf hc.2,J6]
 have s7:hset (K++[[(5,O.cells [])]]) K.length 7 (.cells c)=K++[[(5,.cells []),(7,.cells c)]]:=by rw[Xx];rfl
 simp only[wS,simprocAttr,Tryz.ntmps52,nn,mt5,new,n5,s5,Q3,ap,s7,Zu0,sz5,zc5,wB];refine W.done (End.ret (v:= .mS K.length 7 0 256 none 1) rfl ?_);rw[Z2 (by simp[V.refs])];exact⟨rfl,rfl⟩
theorem Qbb(g:Get)(n:Nat):∀{c:List V},c.all Qi6=true->Qx (frz g (n+1)) c=some c
 |[],_=>rfl
 |x::c,h=>by
  simp only[Zr7,Zqf] at h;have hx:frz g (n+1) x=some x:=by cases x<;>first|rfl|(cases h.1)
  simp only[Qx,hx,Qbb g n h.2]
theorem Qcy{g:Get}{f s o len esz m:Nat}{cap:Option Nat}{xs:List V}(hg:g f s=some (.cells xs))(hl:o+len*esz<=xs.length)(hx:Qx (frz g (m+1)) ((xs.drop o).take (len*esz))=some ((xs.drop o).take (len*esz))):
 frz g (m+2) (.mS f s o len cap esz)=some (.iS ((xs.drop o).take (len*esz)) len (cap==some len)):=by
 have e:frz g (m+2) (.mS f s o len cap esz)=(match g f s with
  |some (.cells xs)=>if o+len*esz<=xs.length then(Qx (frz g (m+1)) ((xs.drop o).take (len*esz))).map fun cs=> .iS cs len (cap==some len) else none
  |_=>none):=rfl
 rw[e,hg];simp only[hl,if_true,hx,Zpl]
theorem Q95(c:List V)(fl:Bool)(hc:J1 c):Fz Tp Qf 52 [.iS c 256 fl] fun r=>r= .iS c 256 false:=by
 refine Fz.of_cw ((Zaq [] c fl hc).mono ?_);rintro r H' ⟨rfl,rfl⟩;have e:(c.drop 0).take (256*1)=c:=by rw[Zr1,Zr8 (Nat.le_of_eq hc.1)]
 have hf:=Qcy (g:=Qd ([]++[[(5,O.cells []),(7,O.cells c)]])) (f:=0) (s:=7) (o:=0) (len:=256) (esz:=1) (cap:=none) (xs:=c) (m:=10) rfl (by rw[hc.1];exact Zpp _) (by rw[e];exact Qbb _ _ hc.2);exact⟨_,rfl,_,hf,by rw[e];rfl⟩
structure Qro(K:Heap)(bv:V)(r:Nat->List V):Prop where
 len:∀g,B0 Tp g 52 bv=some (.int .i64 256)
 ex:∃p q:Nat->V,(∀i:Nat,i<256->Qu Tp 52 bv (.int .i64 (i:Int))=some (p i))/\(∀i,i<256->∀G,ldV Tp 23 (Qd (K++G)) (p i)=some (q i))/\∀i,i<256->∃fl,q i= .iS (r i) 256 fl
 rows:∀i,i<256->J1 (r i)
 refs:bv.refs (fun f _=>Nat.ble K.length f)=false
 cells:bv.cells=some [bv]
 sc:bv.scalar=true
theorem Qlh{esz n:Nat}{v:V}{cells:List V}(h:Qv esz v cells n):v.scalar=true:=by obtain⟨_,⟨rfl,_⟩|⟨f,rfl⟩⟩:=h<;>rfl
def rep(i:Nat):List Int:=List.replicate i 256
theorem Qrs(i:Nat):(rep i).length=i:=by simp[rep]
theorem Zbo{n i:Nat}(h:i<n):(rep n)[i]?=some 256:=by unfold rep;rw[List.getElem?_replicate,if_pos h]
theorem Q9r(i:Nat):rep (i+1)=rep i++[256]:=by simp[rep,List.replicate_succ']
def Qhi(k i:Nat):V:=if i=0 then .nS else .gS k 21 (Qm (rep i)) i 1
def Qiu(bv wv:V)(i:Nat):AM.Frame:=if i=0 then[(1,.cells [bv,wv]),(2,.cells [.nS,.nS])] else[(1,.cells [bv,wv]),(2,.cells [.nS,.nS]),(21,.grow i)]
theorem Q4z(K:Heap)(bv wv:V)(i:Nat)(hi:i<256):
 Qp Tp (Qf.mt 79) K.length (Qd (K++[Qiu bv wv i])) (some 21) 34 34 (Qhi K.length i) (.iS [.int .i64 256] 1 true)=
  some (.val (Qhi K.length (i+1)) (some (K.length,21,.grow (i+1)))):=by
 have g21:Qd (K++[Qiu bv wv i]) K.length 21=if i=0 then none else some (.grow i):=by
  rw[J2];show Xf (Qiu bv wv i) 21=_;unfold Qiu;by_cases h:i=0
  . simp only[h,if_true];rfl
  . simp only[h,if_false];rfl
 have sc:∀g,Qj g 1 (.iS [.int .i64 256] 1 true)=some ([.int .i64 256],1):=fun g=>rfl;unfold Qhi;rw[if_neg (Zsm i),Q9r];by_cases h:i=0
 . subst h;simp only[if_true] at g21⊢;rw[Qbu Zu2 sz3 by64 zc3 rfl Zu2 (sc _) (by decide) (by decide),Bc rfl rfl g21];rfl
 . simp only[h,if_false] at g21⊢;rw[Qca Zu2 sz3 by64 zc3 rfl Zu2 (sc _) (by decide) (Jg (by omega) (by omega)) rfl rfl g21];simp[Qm]
def Bt(r:Nat->List V)(Z:List V)(i:Nat):List V:=((List.range i).map r).flatten++Z.drop (256*i)
theorem Qeg{r:Nat->List V}:∀{i:Nat},(∀j,j<i->(r j).length=256)->((List.range i).map r).flatten.length=256*i
 |0,_=>rfl
 |i+1,h=>by
  rw[Zsk,Zsc,Zsb,Zqp,Qeg (fun j hj=>h j (by omega))];simp[h i (by omega)];omega
theorem Q0o(r:Nat->List V)(Z:List V):Bt r Z 0=Z:=by simp[Bt]
theorem Qfr{r:Nat->List V}{Z:List V}(hZ:Z.length=65536){i:Nat}(hi:i<=256)(h:∀j,j<256->(r j).length=256):(Bt r Z i).length=65536:=by rw[Bt,Zqp,Qeg (fun j hj=>h j (by omega)),List.length_drop,hZ];omega
theorem Qvg{r:Nat->List V}{Z:List V}(hZ:Z.length=65536){i:Nat}(hi:i<256)(h:∀j,j<256->(r j).length=256):splice (Bt r Z i) (256*i) (r i)=Bt r Z (i+1):=by
 have hf:=Qeg (r:=r) (i:=i) (fun j hj=>h j (by omega));unfold splice Bt;rw[Zsk,Zsc,Zsb,Zrx hf,Zry,hf,Zrz (by rw[hf,h i hi];omega),h i hi];have e:256*i+256-256*i=256:=by omega
 rw[e,Zq5];have e2:256*i+256=256*(i+1):=by omega
 rw[e2];simp
theorem Qcp(n:Nat)(x:V):(zerosN [x] n).length=n:=by
 induction n with
 |zero=>rfl
 |succ n ih=>simp[zerosN,ih]
theorem Q5w(k:Nat){n i:Nat}(h:i<n):(Kb k n)[i]?=some (.mS k 20 (256*i) 256 (some 256) 1):=by simp[Kb,h]
theorem Q0k(k:Nat):Qo (Kb k 256)=false:=by show Qo ((List.range (255+1)).map fun j=>V.mS k 20 (256*j) 256 (some 256) 1)=false;rw[List.range_succ_eq_map];rfl
theorem Q3h{P:Program}{t:TypeId}{g:Get}{cs:List V}{o:Nat}:ldV P t g (.rptr cs o)=Qr P t cs o:=rfl
theorem Q93{g:Get}{f s o:Nat}{xs c:List V}{fl:Bool}(hc:J1 c)(hg:g f s=some (.cells xs))(hl:o+256<=xs.length):
 Qa3 Tp g 23 (.mS f s o 256 (some 256) 1) (.iS c 256 fl)=some (.val (.int .i64 256) (some (f,s,.cells (splice xs o c)))):=by
 have sc:Ba g 1 (.iS c 256 fl)=some (c,256):=by simp[Ba,Qj,hc.1]
 have tk:c.take (min 256 256*1)=c:=Zr8 (by rw[hc.1];decide);simp only[Qa3,Zu0,sz5,sc,Qau,hg,if_true,tk,Qnf hc.2];rw[if_pos ⟨by omega,trivial⟩];rfl
theorem Q2v{r:Nat->List V}{Z:List V}(p:Nat->Nat->Bool)(h:∀j,j<256->(r j).all Qi6=true)(hz:∀p,Qh p Z=false):Qh p (Bt r Z 256)=false:=by
 have app:∀a b:List V,Qh p a=false->Qh p b=false->Qh p (a++b)=false:=by
  intro a b ha hb
  induction a with
  |nil=>exact hb
  |cons x a iha=>simp only[Qh,Zqo,Zqe] at ha⊢;exact⟨ha.1,iha ha.2⟩
 have dr:∀(l:List V) (m:Nat),Qh p l=false->Qh p (l.drop m)=false:=by
  intro l
  induction l with
  |nil=>intro m _;simp[Qh]
  |cons x l ih=>intro m h;cases m with
   |zero=>exact h
   |succ m=>simp only[Qh,Zqe] at h;exact ih m h.2
 have fl:∀i,i<=256->Qh p ((List.range i).map r).flatten=false:=by
  intro i
  induction i with
  |zero=>intro _;rfl
  |succ i ih=>
   intro hi;rw[Zsk,Zsc,Zsb];refine app _ _ (ih (by omega)) ?_;simp only[Zp4,Zp5,Zqv,List.flatten_nil,Zqd];exact Ql9 p (h i (by omega))
 exact app _ _ (fl 256 (Zpp _)) (dr _ _ (hz p))
def Qcj(a:Nat->Int)(d:Nat->List V)(i:Nat):List V:=((List.range i).map fun j=>[V.int .i64 (a j),.iS (d j) 256 false]).flatten
theorem Qdz(a:Nat->Int)(d:Nat->List V)(i:Nat):Qcj a d (i+1)=Qcj a d i++[.int .i64 (a i),.iS (d i) 256 false]:=by simp[Qcj,Zsk]
def Kw(k:Nat)(a:Nat->Int)(d:Nat->List V)(i:Nat):V:=if i=0 then .nS else .gS k 58 (Qcj a d i) i 2
theorem Qnr(p:Nat->Nat->Bool)(a:Nat->Int)(d:Nat->List V):∀i,Qh p (Qcj a d i)=false
 |0=>rfl
 |i+1=>by
  rw[Qdz];have app:∀a b:List V,Qh p a=false->Qh p b=false->Qh p (a++b)=false:=by
   intro a b ha hb
   induction a with
   |nil=>exact hb
   |cons x a iha=>simp only[Qh,Zqo,Zqe] at ha⊢;exact⟨ha.1,iha ha.2⟩
  exact app _ _ (Qnr p a d i) rfl
theorem Q58(k:Nat)(a:Nat->Int)(d:Nat->List V)(i:Nat):(Kw k a d i).refs (fun f s=>f==k&&[9].contains s)=false:=by
 unfold Kw;split
 . rfl
 . simp only[V.refs,Qnr];simp
def Qky(bv wv g o:V)(i:Nat):AM.Frame:=if i=0 then[(1,.cells [bv,wv]),(2,.cells [g,o]),(21,.grow 256)] else[(1,.cells [bv,wv]),(2,.cells [g,o]),(21,.grow 256),(58,.grow i)]
def Qtz(bv wv g o:V)(y:List V)(i:Nat):AM.Frame:=if i=0 then[(1,.cells [bv,wv]),(2,.cells [g,o]),(21,.grow 256)] else[(1,.cells [bv,wv]),(2,.cells [g,o]),(9,.cells y),(21,.grow 256),(58,.grow i)]
theorem Zam(bv wv g o:V)(y:List V)(i:Nat):Jk (fun s=>[9].contains s) (Qtz bv wv g o y i)=Qky bv wv g o i:=by unfold Qky Qtz;split<;>rfl
theorem Qx3{cs:List V}{n i:Nat}{a:Int}{c:List V}{fl:Bool}(h:i<n)(hl:cs.length=n*2)(e1:cs[2*i]?=some (.int .i64 a))(e2:cs[2*i+1]?=some (.iS c 256 fl)):
 Qr Tp 134 cs ((i:Int).toNat*2)=some (.agg [.int .i64 a,.iS c 256 fl]):=by
 have e:(i:Int).toNat*2=2*i:=by omega
 rw[e,Qtg,if_pos (by omega)];have g1:=Zq0.1 e1;have g2:=Zq0.1 e2;obtain⟨l1,g1⟩:=g1;obtain⟨l2,g2⟩:=g2;rw[Zsn l1,Zrv,Zsn l2,Zrv,List.take_zero,g1,g2]
def Qgd(bv wv g o:V)(y:List V)(i:Nat):AM.Frame:=if i=0 then[(1,.cells [bv,wv]),(2,.cells [g,o]),(9,.cells y),(21,.grow 256)] else[(1,.cells [bv,wv]),(2,.cells [g,o]),(9,.cells y),(21,.grow 256),(58,.grow i)]
def twF5(bv wv g o:V)(y:List V)(i:Nat):AM.Frame:=[(1,.cells [bv,wv]),(2,.cells [g,o]),(9,.cells y),(21,.grow 256),(58,.grow (i+1))]
theorem byW:byt Tp 134=some 32:=by kernel_rfl
theorem Q5k(K:Heap)(bv wv g:V)(y:List V)(a:Nat->Int)(d:Nat->List V)(G:Heap)(i:Nat)(hi:i<4096):
 Qp Tp (Qf.mt 79) K.length (Qd (K++Qgd bv wv g (Kw K.length a d i) y i::G)) (some 58) 53 53 (Kw K.length a d i) (.iS [.int .i64 (a i),.iS (d i) 256 false] 1 true)=
  some (.val (Kw K.length a d (i+1)) (some (K.length,58,.grow (i+1)))):=by
 have g58:Qd (K++Qgd bv wv g (Kw K.length a d i) y i::G) K.length 58=if i=0 then none else some (.grow i):=by
  rw[J2];show Xf (Qgd bv wv g _ y i) 58=_;unfold Qgd;by_cases h:i=0
  . simp only[h,if_true];rfl
  . simp only[h,if_false];rfl
 have sc:∀g,Qj g 2 (.iS [.int .i64 (a i),.iS (d i) 256 false] 1 true)=some ([.int .i64 (a i),.iS (d i) 256 false],1):=fun g=>rfl;unfold Kw at g58⊢;rw[if_neg (Zsm i),Qdz];by_cases h:i=0
 . subst h;simp only[if_true] at g58⊢;rw[Qbu Zu4 Qdq byW Qui rfl Zu4 (sc _) (by decide) (by decide),Bc rfl rfl g58];rfl
 . simp only[h,if_false] at g58⊢;rw[Qca Zu4 Qdq byW Qui rfl Zu4 (sc _) (by decide) (Jg (by omega) (by omega)) rfl rfl g58]
theorem Xw{P:Program}{F:Func}{t:List V}{H:Heap}{a:Nat}{T:TypeId}{f s o:Nat}{xs:List V}{v:V}(hF:F.results.toList=[.cell a T])(ht:t.getD a .bad= .ptr f s o)(hg:Qd H f s=some (.cells xs))(hr:Qr P T xs o=some v):Qa5 P F t H=some v:=by
 have h1:Bx P t H (.cell a T)=some v:=by
  show(match t.getD a .bad with
   | .ptr f s o=>(match Qd H f s with
     |some (.cells xs)=>Qr P T xs o
     |_=>none)
   |_=>none)=_
  rw[ht];show(match Qd H f s with
   |some (.cells xs)=>Qr P T xs o
   |_=>none)=_
  rw[hg];exact hr
 have h2:Qgk P t H [.cell a T]=some [v]:=by
  show(match Bx P t H (.cell a T),(some []:Option (List V)) with
   |some v,some vs=>some (v::vs)
   |_,_=>none)=_
  rw[h1]
 unfold Qa5;rw[hF,h2]
theorem Q37(K:Heap)(hw:WF K)(bv wv:V)(r:Nat->List V)(hb:Qro K bv r)(cs:List V)(n:Nat)(hv:Qv 2 wv cs n)(hn:n<=4096)(a:Nat->Int)(d:Nat->List V)
 (hwait:∀j,j<n->cs[2*j]?=some (.int .i64 (a j))/\∃fl,cs[2*j+1]?=some (.iS (d j) 256 fl))(hdata:∀j,j<n->J1 (d j)):
 CW Tp Qf 79 [.agg [bv,wv]] K fun rr K' =>rr= .ret (.agg [.gS (K.length+1) 33 (Kb (K.length+1) 256) 256 1,Kw K.length a d n])/\
  K' =K++[Qky bv wv (.gS (K.length+1) 33 (Kb (K.length+1) 256) 256 1) (Kw K.length a d n) n,[(20,.cells (Bt r (zerosN [.int .u8 0] 65536) 256)),(33,.grow 256)]]:=by
 generalize hZ:zerosN [V.int .u8 0] 65536=Z;refine Ye Tryz.func79 rfl ?_;obtain⟨p,q,hp,hq,hfl⟩:=hb.ex;have len:=hb.len;have lw:=hv.len Zu4;have wsc:wv.scalar=true:=Qlh hv;simp only[wA,↓Qc,simprocAttr,Tryz.ntmps79,ta,wG,wB,hb.sc,wsc,len];refine W.ul ?_;refine W.loopS (kt:=[1,2,3,11,12,13]) rfl (fun i:Nat=>Qwd (.ptr K.length 1 0) (.ptr K.length 2 0) (Qhi K.length i) bv (.int .i64 256) (.int .i64 i)) (fun i=>K++[Qiu bv wv i]) (fun i=>i<=256) (fun i=>256-i) ?_ 0 (by omega) rfl rfl;rintro i hi;simp only[Qwd];by_cases h:i<256
 . have c1:decide ((i:Int)<256)=true:=Zsw (by omega);have w1:=Y1 (i:=i) (by omega);obtain⟨fl,hfi⟩:=hfl i h;have hqi:=fun G=>hq i h G;rw[hfi] at hqi;have ap:Qp Tp (Qf.mt 79) K.length (Qd (K++[Qiu bv wv i])) (some 21) 34 34 (Qhi K.length i) (.iS [.int .i64 ((256:Nat):Int)] 1 true)=some (.val (Qhi K.length (i+1)) (some (K.length,21,.grow (i+1)))):=Q4z K bv wv i h;have mt20:Qf.mt 79 20=false:=rfl;have s21:hset (K++[Qiu bv wv i]) K.length 21 (.grow (i+1))=K++[Qiu bv wv (i+1)]:=by
    rw[Xx];show K++[J3 (Qiu bv wv i) 21 _]=_;unfold Qiu;rw[if_neg (Zsm i)];split<;>rfl
   simp only[Qki,Qdc,Qc8,Zm,Q9,Yy,nov,gd,rho,Qs,wr,Nat.reduceAdd,Nat.reduceSub,if_true,if_false,reduceIte,reduceCtorEq,Nat.reduceLT,Nat.reduceEqDiff,Nat.reduceMul,Nat.reduceLeDiff,Qh1,Int.reduceBEq,Int.reduceBNe,Int.reduceLT,Int.reduceLE,↓Qc,c1,hp i h,hqi,ta,wB,w1,mt20,Q3,ap,s21,Zu2];exact W.done ⟨i+1,rfl,rfl,by omega,by omega⟩
 . have c1:decide ((i:Int)<256)=false:=Zsx (by omega);have hi2:i=256:=by omega
   subst hi2;simp only[wA,↓Qc,simprocAttr,c1];refine W.done ?_;have hwF:WF (K++[Qiu bv wv 256]):=by refine WF.app hw ?_;have b1:bv.refs (fun f _=>Nat.ble (K.length+1) f)=false:=Qbq (Qlk (Nat.le_succ _)) bv hb.refs;have b2:wv.refs (fun f _=>Nat.ble (K.length+1) f)=false:=hv.noRefs _;show Zb (fun f _=>Nat.ble (K.length+1) f) [[(1,.cells [bv,wv]),(2,.cells [.nS,.nS]),(21,.grow 256)]]=true;simp only[Zb,Q0,O.refs,Qh,V.refs,b1,b2];rfl
   obtain⟨rr,KK,hcall,rfl,rfl⟩:=Zat (K++[Qiu bv wv 256]) hwF (.iS (Qm (rep 256)) 256 false) (rep 256) (Qrs 256) (fun i hi=>Zbo hi) (by
    have:=Ke.mk (rep 256) false
    rwa[Qrs] at this)
   have hk1:(K++[Qiu bv wv 256]).length=K.length+1:=by simp
   have hcall' :callOp Qf (Qq Tp Qf) 79 K.length (some 24) 107 [Qhi K.length 256] (K++[Qiu bv wv 256])=
    some (.ret (.gS (K.length+1) 33 (Kb (K.length+1) 256) 256 1),K++[Qiu bv wv 256,[(20,.cells (zerosN [.int .u8 0] 65536)),(33,.grow 256)]]):=by
    refine Qhb rfl rfl rfl (args' :=[.iS (Qm (rep 256)) 256 false]) ?_ ?_
    . have e:Qhi K.length 256= .gS K.length 21 (Qm (rep 256)) 256 1:=rfl;rw[e];have f1:frz (fun _ _=>none) 12 (.gS K.length 21 (Qm (rep 256)) 256 1)=(Qx (frz (fun _ _=>none) 11) (Qm (rep 256))).map fun cs=> .iS cs 256 false:=rfl;show Qx (frz (fun _ _=>none) 12) _=_;simp only[Qx,f1,Qdu (fun _ _=>none) 10,Zpl]
    . rw[hk1] at hcall;rw[hcall];simp
   rw[hZ] at hcall';have hF:Qiu bv wv 256=[(1,.cells [bv,wv]),(2,.cells [.nS,.nS]),(21,.grow 256)]:=rfl;rw[hF] at hcall' ⊢;simp only[wA,↓Qc,simprocAttr,hcall',ta,wG,wB,hb.sc,wsc,len];have hZl:Z.length=65536:=by rw[<-hZ];exact Qcp _ _
   have hr:∀j,j<256->(r j).length=256:=fun j hj=>(hb.rows j hj).1;refine W.ul ?_;refine W.loopS (kt:=[1,2,27,28,29]) rfl (fun i:Nat=>Qvq (.ptr K.length 1 0) (.ptr K.length 2 0) bv (.int .i64 256) (.int .i64 i))
    (fun i=>K++[[(1,.cells [bv,wv]),(2,.cells [.gS (K.length+1) 33 (Kb (K.length+1) 256) 256 1,.nS]),(21,.grow 256)],[(20,.cells (Bt r Z i)),(33,.grow 256)]]) (fun i=>i<=256) (fun i=>256-i) ?_ 0 (by omega) rfl (by rw[Q0o])
   rintro i hi;simp only[Qvq];by_cases h:i<256
   . have c1:decide ((i:Int)<256)=true:=Zsw (by omega);have w1:=Y1 (i:=i) (by omega);obtain⟨fl,hfi⟩:=hfl i h;have hqi:=fun G=>hq i h G;rw[hfi] at hqi;have at2:=at_r (P:=Tp) (u:=52) (k:= .i64) Zu1 Qah (f:=K.length+1) (s:=33) (len:=256) (i:=(i:Int)) (Q0k (K.length+1)) (by omega) (by omega);have gr:(Kb (K.length+1) 256)[(i:Int).toNat*1]?=some (.mS (K.length+1) 20 (256*i) 256 (some 256) 1):=by
      have e:(i:Int).toNat*1=i:=by omega
      rw[e];exact Q5w _ h
     have hlen:=Qfr (r:=r) hZl hi hr;have cp:=fun(g:Get) (hg:g (K.length+1) 20=some (.cells (Bt r Z i)))=>Q93 (fl:=fl) (hb.rows i h) hg (o:=256*i) (by rw[hlen];omega);have sp:=Qvg hZl h hr;rw[sp] at cp;generalize hD:Bt r Z i=D at cp⊢;generalize hD2:Bt r Z (i+1)=D2 at cp⊢;have cp' :=cp (Qd (K++[[(1,.cells [bv,wv]),(2,.cells [.gS (K.length+1) 33 (Kb (K.length+1) 256) 256 1,.nS]),(21,.grow 256)],[(20,.cells D),(33,.grow 256)]])) (by rw[Qrg];rfl);generalize hR:Kb (K.length+1) 256=R at at2 gr cp' ⊢;simp only[wA,↓Qc,simprocAttr,c1,hp i h,hqi,ta,wG,w1,at2,Q3h,gr,Qoi,cp'];subst hD2;exact W.done ⟨i+1,rfl,rfl,by omega,by omega⟩
   have c1:decide ((i:Int)<256)=false:=Zsx (by omega);have hi2:i=256:=by omega
   subst hi2;have hDr:∀p:Nat->Nat->Bool,Qh p (Bt r Z 256)=false:=fun p=>Q2v p (fun j hj=>(hb.rows j hj).2) (by rw[<-hZ];exact fun q=>Qg1 _ _ _ rfl);generalize hD:Bt r Z 256=D at hDr⊢;have hRr:∀p:Nat->Nat->Bool,p (K.length+1) 20=false->Qh p (Kb (K.length+1) 256)=false:=fun p hp=>Qpb _ _ _ hp;generalize hR:Kb (K.length+1) 256=R at hRr⊢;simp only[wA,↓Qc,simprocAttr,c1];refine W.done ?_;simp only[wA,↓Qc,simprocAttr,ta,wG,wB,hb.sc,wsc,len,lw];refine W.ul ?_;refine W.loop (fun(i:Nat) t H=>∃y:List V,Jj [2,43,44,45] t 0=Qin (.ptr K.length 2 0) wv (.int .i64 n) (.int .i64 i)/\i<=n/\H=K++[Qtz bv wv (.gS (K.length+1) 33 R 256 1) (Kw K.length a d i) y i,[(20,.cells D),(33,.grow 256)]]/\Qh (fun f s=>f==K.length&&[9].contains s) y=false)
    (fun i=>n-i) ?_ 0 ⟨[],rfl,by omega,rfl,rfl⟩ rfl
   rintro i t H ⟨y,ht,hi,rfl,hy⟩;have hd:(K++[Qtz bv wv (.gS (K.length+1) 33 R 256 1) (Kw K.length a d i) y i,[(20,.cells D),(33,.grow 256)]]).modify K.length (Jk fun s=>[9].contains s)=K++[Qky bv wv (.gS (K.length+1) 33 R 256 1) (Kw K.length a d i) i,[(20,.cells D),(33,.grow 256)]]:=by have:=Qdp (Jk fun s=>[9].contains s) K [Qtz bv wv (.gS (K.length+1) 33 R 256 1) (Kw K.length a d i) y i,[(20,.cells D),(33,.grow 256)]] 0;exact this.trans (by rw[<-Zam bv wv _ _ y i];rfl)
   have bvr:bv.refs (fun f s=>f==K.length&&[9].contains s)=false:=Qbq (fun f s h=>by simp at h;simp;omega) bv hb.refs;have wvr:wv.refs (fun f s=>f==K.length&&[9].contains s)=false:=hv.noRefs _;have Rr:=hRr (fun f s=>f==K.length&&[9].contains s) (by simp);have Dr:=hDr (fun f s=>f==K.length&&[9].contains s);have or_:=Q58 K.length a d i;refine⟨_,_,Zq (kt:=[2,43,44,45]) (ds:=[9]) rfl ?_ ?_,?_⟩
   . rw[ht];simp only[Qin,Qh,V.refs,wvr];simp
   . rw[hd,B5,Qd0 hw (fun f s h=>by simp at h;omega)];unfold Qky;split<;>simp only[Zb,Q0,O.refs,Qh,V.refs,bvr,wvr,Rr,Dr,or_]<;>simp
   rw[ht,hd];simp only[Qin];by_cases h:i<n
   . have c1:decide ((i:Int)<n)=true:=Zsw (by omega);have w1:=Y1 (i:=i) (by omega);obtain⟨e1,fl,e2⟩:=hwait i h;have at1:=hv.at (k:= .i64) Zu4 Qdq (by decide) (i:=(i:Int)) (by omega) (by omega);have ldw:=Qx3 h hv.1 e1 e2;obtain⟨m,rfl,hm⟩:=(Q95 (d i) fl (hdata i h)).op (by rfl) rfl;have hm' :∀s H,_:=fun s H=>hm 79 K.length s H rfl;have n9:Qd (K++[Qky bv wv (.gS (K.length+1) 33 R 256 1) (Kw K.length a d i) i,[(20,.cells D),(33,.grow 256)]]) K.length 9=none:=by
      rw[J2];show Xf (Qky bv wv _ _ i) 9=none;unfold Qky;split<;>rfl
     have s9:∀x,hset (K++[Qky bv wv (.gS (K.length+1) 33 R 256 1) (Kw K.length a d i) i,[(20,.cells D),(33,.grow 256)]]) K.length 9 (.cells x)=K++[Qgd bv wv (.gS (K.length+1) 33 R 256 1) (Kw K.length a d i) x i,[(20,.cells D),(33,.grow 256)]]:=fun x=>by rw[Xx];show K++[J3 (Qky bv wv _ _ i) 9 _,_]=_;unfold Qky Qgd;split<;>rfl
     have s9' :∀x z,hset (K++[Qgd bv wv (.gS (K.length+1) 33 R 256 1) (Kw K.length a d i) x i,[(20,.cells D),(33,.grow 256)]]) K.length 9 (.cells z)=K++[Qgd bv wv (.gS (K.length+1) 33 R 256 1) (Kw K.length a d i) z i,[(20,.cells D),(33,.grow 256)]]:=fun x z=>by rw[Xx];show K++[J3 (Qgd bv wv _ _ x i) 9 _,_]=_;unfold Qgd;split<;>rfl
     have g9:∀x,Qd (K++[Qgd bv wv (.gS (K.length+1) 33 R 256 1) (Kw K.length a d i) x i,[(20,.cells D),(33,.grow 256)]]) K.length 9=some (.cells x):=fun x=>by rw[J2];show Xf (Qgd bv wv _ _ x i) 9=_;unfold Qgd;split<;>rfl
     have g2:∀x,Qd (K++[Qgd bv wv (.gS (K.length+1) 33 R 256 1) (Kw K.length a d i) x i,[(20,.cells D),(33,.grow 256)]]) K.length 2=some (.cells [.gS (K.length+1) 33 R 256 1,Kw K.length a d i]):=fun x=>by rw[J2];show Xf (Qgd bv wv _ _ x i) 2=_;unfold Qgd;split<;>rfl
     have ap:=Q5k K bv wv (.gS (K.length+1) 33 R 256 1) [.int .i64 (a i),.iS (d i) 256 fl] a d [[(20,.cells D),(33,.grow 256)]] i (by omega);have s58:∀x,hset (K++[Qgd bv wv (.gS (K.length+1) 33 R 256 1) (Kw K.length a d i) x i,[(20,.cells D),(33,.grow 256)]]) K.length 58 (.grow (i+1))=K++[twF5 bv wv (.gS (K.length+1) 33 R 256 1) (Kw K.length a d i) x i,[(20,.cells D),(33,.grow 256)]]:=fun x=>by rw[Xx];show K++[J3 (Qgd bv wv _ _ x i) 58 _,_]=_;unfold Qgd twF5;split<;>rfl
     have g2' :∀x,Qd (K++[twF5 bv wv (.gS (K.length+1) 33 R 256 1) (Kw K.length a d i) x i,[(20,.cells D),(33,.grow 256)]]) K.length 2=some (.cells [.gS (K.length+1) 33 R 256 1,Kw K.length a d i]):=fun x=>by rw[J2];rfl
     have s2:∀x o,hset (K++[twF5 bv wv (.gS (K.length+1) 33 R 256 1) (Kw K.length a d i) x i,[(20,.cells D),(33,.grow 256)]]) K.length 2 (.cells [.gS (K.length+1) 33 R 256 1,o])=K++[Qtz bv wv (.gS (K.length+1) 33 R 256 1) o x (i+1),[(20,.cells D),(33,.grow 256)]]:=fun x o=>by rw[Xx];rfl
     have mt57:Qf.mt 79 57=false:=rfl;have scw:(Kw K.length a d (i+1)).scalar=true:=by unfold Kw;rw[if_neg (Zsm i)];rfl
     have scw0:(Kw K.length a d i).scalar=true:=by unfold Kw;split<;>rfl
     have wcl:(Kw K.length a d (i+1)).cells=some [Kw K.length a d (i+1)]:=by unfold Kw;rw[if_neg (Zsm i)];rfl
     simp only[wA,↓Qc,simprocAttr,c1,at1,ldw,ta,wB,w1,wcl,new,n9,s9,s9',g9,g2,hm',mt57,Q3,ap,s58,g2',s2,scw,scw0,Zu4];refine W.opsK (by kernel_rfl) ?_;simp only[wA,↓Qc,simprocAttr,w1];exact W.done ⟨i+1,⟨_,rfl,by omega,rfl,by simp[Qh,V.refs]⟩,by omega⟩
   . have c1:decide ((i:Int)<n)=false:=Zsx (by omega);have hi2:i=n:=by omega
     subst hi2;simp only[wA,↓Qc,simprocAttr,c1];refine W.done ?_;simp only[wA,↓Qc,simprocAttr];refine W.done (End.ret (v:= .agg [.gS (K.length+1) 33 R 256 1,Kw K.length a d i]) ?_ ?_)
     . refine Xw (xs:=[.gS (K.length+1) 33 R 256 1,Kw K.length a d i]) rfl rfl ?_ (by rw[rd55];rfl);rw[J2];show Xf (Qky bv wv _ _ i) 2=_;unfold Qky;split<;>rfl
     . rw[Z2 (by simp[V.refs,Qh])];exact⟨rfl,by rw[<-hR,<-hD]⟩
def encD(r:Nat->List V)(a:Nat->Int)(d:Nat->List V)(n:Nat):V:=
 .agg [.iS ((List.range 256).map fun j=> .iS (r j) 256 true) 256 false,if n=0 then .nS else .iS (Qcj a d n) n false]
theorem Q5t{r:Nat->List V}{Z:List V}(h:∀j,j<256->(r j).length=256){i:Nat}(hi:i<256):((Bt r Z 256).drop (256*i)).take 256=r i:=by
 have key:∀m,m<=256->i<m->∀T:List V,((((List.range m).map r).flatten++T).drop (256*i)).take 256=r i:=by
  intro m
  induction m with
  |zero=>intro _ h;omega
  |succ m ih=>
   intro hm him T;rw[Zsk,Zsc,Zsb,Zqm];by_cases e:i=m
   . subst e;have hf:=Qeg (r:=r) (i:=i) (fun j hj=>h j (by omega));rw[Zry,hf,Nat.sub_self,Zrz (by rw[hf];exact Zpp _)];simp only[Zp4,Zp5,Zqv,List.flatten_nil,Zqd,Zrg,Zr1];exact Zrx (h i (by omega))
   . exact ih (by omega) (by omega) _
 exact key 256 (Zpp _) hi _
theorem Qn5(K:Heap)(rv:List V)(fl:Bool)(r:Nat->List V)(hl:rv.length=256)(hr:∀i,i<256->∃f,rv[i]?=some (.iS (r i) 256 f))(hrow:∀i,i<256->J1 (r i)):Qro K (.iS rv 256 fl) r:=by
 have hs:Qv 1 (.iS rv 256 fl) rv 256:=Qv.mk (by rw[hl]);refine⟨fun g=>hs.len Zu1 g,⟨fun i=> .iptr rv i,fun i=>rv.getD i .bad,fun i hi=>?_,fun i hi G=>?_,fun i hi=>?_⟩,hrow,rfl,rfl,rfl⟩
 . have:=hs.at (k:= .i64) Zu1 Qah (by decide) (i:=(i:Int)) (by omega) (by omega);rw[this];have e:(i:Int).toNat*1=i:=by omega
   rw[e]
 . obtain⟨f,hf⟩:=hr i hi;show Qr Tp 23 rv i=_;rw[rd23,hf];simp[List.getD,hf]
 . obtain⟨f,hf⟩:=hr i hi;exact⟨f,by simp[List.getD,hf]⟩
theorem Qpy{g:Get}{n:Nat}{f h:Nat->V}:∀(l:List Nat),(∀j∈l,frz g n (f j)=some (h j))->Qx (frz g n) (l.map f)=some (l.map h)
 |[],_=>rfl
 |j::l,e=>by
  simp only[Zp4,Qx,e j (by simp),Qpy l (fun k hk=>e k (by simp[hk]))]
theorem Qqn(g:Get)(m:Nat)(a:Nat->Int)(d:Nat->List V):∀n,Qx (frz g (m+1)) (Qcj a d n)=some (Qcj a d n)
 |0=>rfl
 |n+1=>by
  have app:∀(l k l' k' :List V),Qx (frz g (m+1)) l=some l' ->Qx (frz g (m+1)) k=some k' ->Qx (frz g (m+1)) (l++k)=some (l' ++k'):=by
   intro l
   induction l with
   |nil=>intro k l' k' h1 h2;cases h1;exact h2
   |cons x l ih=>
    intro k l' k' h1 h2;simp only[Qx,Zqo] at h1⊢;cases hx:frz g (m+1) x with
    |none=>rw[hx] at h1;cases h1
    |some y=>
     rw[hx] at h1;cases hl:Qx (frz g (m+1)) l with
     |none=>rw[hl] at h1;cases h1
     |some ys=>rw[hl] at h1;cases h1;rw[ih k ys k' hl h2];rfl
  rw[Qdz];exact app _ _ _ _ (Qqn g m a d n) rfl
theorem Qqj(k:Nat)(H:Heap)(r:Nat->List V)(Z:List V)(a:Nat->Int)(d:Nat->List V)(n:Nat)(hrow:∀i,i<256->J1 (r i))(hZ:Z.length=65536)(hg:Qd H (k+1) 20=some (.cells (Bt r Z 256))):
 frz (Qd H) depth (.agg [.gS (k+1) 33 (Kb (k+1) 256) 256 1,Kw k a d n])=some (encD r a d n):=by
 have hr:∀j,j<256->(r j).length=256:=fun j hj=>(hrow j hj).1;have hl:=Qfr (r:=r) hZ (Zpp 256) hr;have row:∀j∈List.range 256,frz (Qd H) 10 (.mS (k+1) 20 (256*j) 256 (some 256) 1)=some (.iS (r j) 256 true):=by intro j hj;have hj' :j<256:=Zq1.1 hj;have e:((Bt r Z 256).drop (256*j)).take (256*1)=r j:=Q5t hr hj';have:=Qcy (g:=Qd H) (f:=k+1) (s:=20) (o:=256*j) (len:=256) (esz:=1) (cap:=some 256) (xs:=Bt r Z 256) (m:=8) hg (by rw[hl];omega) (by rw[e];exact Qbb _ _ (hrow j hj').2);rw[e] at this;exact this
 have rows:=Qpy (List.range 256) row;have g1:frz (Qd H) 11 (.gS (k+1) 33 (Kb (k+1) 256) 256 1)=some (.iS ((List.range 256).map fun j=> .iS (r j) 256 true) 256 false):=by have e:frz (Qd H) 11 (.gS (k+1) 33 (Kb (k+1) 256) 256 1)=(Qx (frz (Qd H) 10) (Kb (k+1) 256)).map fun cs=> .iS cs 256 false:=rfl;rw[e];unfold Kb;rw[rows];rfl
 have g2:frz (Qd H) 11 (Kw k a d n)=some (if n=0 then .nS else .iS (Qcj a d n) n false):=by
  unfold Kw;by_cases h:n=0
  . simp only[h,if_true];rfl
  . simp only[h,if_false];have e:frz (Qd H) 11 (.gS k 58 (Qcj a d n) n 2)=(Qx (frz (Qd H) 10) (Qcj a d n)).map fun cs=> .iS cs n false:=rfl;rw[e,Qqn];rfl
 have e:frz (Qd H) depth (.agg [.gS (k+1) 33 (Kb (k+1) 256) 256 1,Kw k a d n])=(Qx (frz (Qd H) 11) [.gS (k+1) 33 (Kb (k+1) 256) 256 1,Kw k a d n]).map .agg:=rfl;rw[e];simp only[Qx,g1,g2,Zpl];rfl
theorem Zdb(rv:List V)(fl:Bool)(r:Nat->List V)(hl:rv.length=256)(hr:∀i,i<256->∃f,rv[i]?=some (.iS (r i) 256 f))(hrow:∀i,i<256->J1 (r i))(wv:V)(cs:List V)(n:Nat)(hv:Qv 2 wv cs n)(hn:n<=4096)(a:Nat->Int)(d:Nat->List V)
 (hwait:∀j,j<n->cs[2*j]?=some (.int .i64 (a j))/\∃fl,cs[2*j+1]?=some (.iS (d j) 256 fl))(hdata:∀j,j<n->J1 (d j)):
 Fz Tp Qf 79 [.agg [.iS rv 256 fl,wv]] fun x=>x=encD r a d n:=by
 refine Fz.of_cw ((Q37 [] WF.nil _ wv r (Qn5 [] rv fl r hl hr hrow) cs n hv hn a d hwait hdata).mono ?_);rintro rr H' ⟨rfl,rfl⟩;refine⟨_,rfl,_,?_,rfl⟩;exact Qqj 0 _ r (zerosN [.int .u8 0] 65536) a d n hrow (Qcp _ _) rfl
theorem Za9(a:Int)(h0:0<=a)(h1:a<256):Fz Tp Qf 101 [.int .i64 a] fun x=>x= .bool true:=by
 refine Zp Tryz.func101 rfl ?_;have cv:∀g,convertV Tp g 3 197 (.int .i64 a)=some (.val (.int .u64 a) none):=fun g=>by
  have w:(IntKind.u64).wrap a=a:=by simp only[IntKind.wrap,IntKind.bits,IntKind.signed,Zsh,Zpo,if_false];omega
  simp only[convertV,Zu3,Zu11,w]
 have c1:decide (a<256)=true:=Zsw h1;simp only[wA,↓Qc,simprocAttr,Tryz.ntmps101,cv,c1];exact W.done (Zc.ret rfl rfl rfl)
theorem Q7r(rv:List V)(fl:Bool)(r:Nat->List V)(hl:rv.length=256)(hr:∀i,i<256->∃f,rv[i]?=some (.iS (r i) 256 f))(wv:V)(cs:List V)(n:Nat)(hv:Qv 2 wv cs n)(hn:n<=4096)(a:Nat->Int)(d:Nat->List V)
 (hwait:∀j,j<n->cs[2*j]?=some (.int .i64 (a j))/\∃fl,cs[2*j+1]?=some (.iS (d j) 256 fl))(ha:∀j,j<n->0<=a j/\a j<256):
 CW Tp Qf 67 [.agg [.iS rv 256 fl,wv]] [] fun x _=>x= .ret (.int .i64 0):=by
 refine Ye Tryz.func67 rfl ?_;have hs:Qv 1 (.iS rv 256 fl) rv 256:=Qv.mk (by rw[hl]);have lw:=hv.len Zu4;have wsc:wv.scalar=true:=Qlh hv;have c4:decide ((n:Int)<=4096)=true:=Zsw (by omega);have e256:(((256:Nat):Int)==256)=true:=rfl;have ldr:∀i:Nat,i<256->∃f,∀g,ldV Tp 23 g (.iptr rv ((i:Int).toNat*1))=some (.iS (r i) 256 f):=fun i hi=>by
  obtain⟨f,hf⟩:=hr i hi;refine⟨f,fun g=>?_⟩;have e:(i:Int).toNat*1=i:=by omega
  rw[e];show Qr Tp 23 rv i=_;rw[rd23,hf]
 simp only[wX,↓Qc,simprocAttr,Tryz.ntmps67,wsc,lw,c4,e256];refine W.ul ?_;refine W.loopS (kt:=[1,3,19,20,21]) rfl (fun i:Nat=>Qmr (.ptr 0 1 0) (.bool true) (.iS rv 256 fl) (.int .i64 ((256:Nat):Int)) (.int .i64 i)) (fun i=>[[(1,.cells [.iS rv 256 fl,wv])]]) (fun i=>i<=256) (fun i=>256-i) ?_ 0 (by omega) rfl rfl;rintro i hi;simp only[Qmr];by_cases h:i<256
 . have c1:decide ((i:Int)<((256:Nat):Int))=true:=Zsw (by omega);have w1:=Y1 (i:=i) (by omega);obtain⟨f,hf⟩:=ldr i h;have at1:=hs.at (k:= .i64) Zu1 Qah (by decide) (i:=(i:Int)) (by omega) (by omega);simp only[Qki,Qdc,Qc8,Zm,Q9,Yy,nov,gd,rho,Qs,wr,Nat.reduceAdd,Nat.reduceSub,if_true,if_false,reduceIte,reduceCtorEq,Nat.reduceLT,Nat.reduceEqDiff,Nat.reduceMul,Nat.reduceLeDiff,Qh1,Int.reduceBEq,Int.reduceBNe,Int.reduceLT,Int.reduceLE,↓Qc,c1,at1,hf,ta,w1,e256];exact W.done ⟨i+1,rfl,rfl,by omega,by omega⟩
 . have c1:decide ((i:Int)<((256:Nat):Int))=false:=Zsx (by omega);have hi2:i=256:=by omega
   subst hi2;simp only[wA,↓Qc,simprocAttr,c1];refine W.done ?_;simp only[wX,↓Qc,simprocAttr,wsc,lw];refine W.ul ?_;refine W.loop (fun(i:Nat) t H=>∃F:AM.Frame,Jj [3,33,34,35] t 0=Qh3 (.bool true) wv (.int .i64 n) (.int .i64 i)/\i<=n/\H=[F]/\(F=[(1,.cells [.iS rv 256 fl,wv])]\/∃x,F=[(1,.cells [.iS rv 256 fl,wv]),(7,.cells x)])) (fun i=>n-i) ?_ 0 ⟨_,rfl,by omega,rfl,.inl rfl⟩ rfl;rintro i t H ⟨F,ht,hi,rfl,hF⟩;have hd:([F]:Heap).modify 0 (Jk fun s=>[7].contains s)=[[(1,.cells [.iS rv 256 fl,wv])]]:=by rcases hF with rfl|⟨x,rfl⟩<;>rfl
   have wvr:wv.refs (fun f s=>f==0&&[7].contains s)=false:=hv.noRefs _;refine⟨_,_,Zq (kt:=[3,33,34,35]) (ds:=[7]) rfl ?_ ?_,?_⟩
   . rw[ht];simp only[Qh3,Qh,V.refs,wvr];simp
   . rw[hd];simp only[Zb,Q0,O.refs,Qh,V.refs,wvr];simp
   rw[ht,hd];simp only[Qh3];by_cases h:i<n
   . have c1:decide ((i:Int)<n)=true:=Zsw (by omega);have w1:=Y1 (i:=i) (by omega);obtain⟨e1,fl2,e2⟩:=hwait i h;have at1:=hv.at (k:= .i64) Zu4 Qdq (by decide) (i:=(i:Int)) (by omega) (by omega);have ldw:=Qx3 h hv.1 e1 e2;obtain⟨m,rfl,hm⟩:=(Za9 (a i) (ha i h).1 (ha i h).2).op (by rfl) rfl;have hm' :∀s H,_:=fun s H=>hm 67 0 s H rfl;simp only[wX,↓Qc,simprocAttr,c1,at1,ldw,w1,hm',e256];exact W.done ⟨i+1,⟨_,rfl,by omega,rfl,.inr ⟨_,rfl⟩⟩,by omega⟩
   . have c1:decide ((i:Int)<n)=false:=Zsx (by omega);simp only[wA,↓Qc,simprocAttr,c1];refine W.done ?_;simp only[wA,↓Qc,simprocAttr];exact W.done (End.ret (v:= .int .i64 0) rfl rfl)
theorem Zem:J0 Tp Qf 60 (some 376) [.int .u64 1,.int .u64 256] []=some (.ret (.tuple [.int .u64 0,.int .u64 256]),[]):=by kernel_rfl
theorem mul_fz:Fz Tp Qf 376 [.int .u64 1,.int .u64 256] fun x=>x= .tuple [.int .u64 0,.int .u64 256]:=
 ⟨_,_,_,Y9.2 ⟨60,Zem⟩,Zb6 (Qa rfl (Qa rfl rfl)),rfl⟩
theorem Zc9(n m:Nat)(x:Int):List.replicate n x++List.replicate m x=List.replicate (n+m) x:=by
 induction n with
 |zero=>simp
 |succ n ih=>rw[List.replicate_succ,Zqo,ih,Nat.succ_add,List.replicate_succ]
def X6(n:Nat):List Int:=List.replicate n 256++List.replicate (256-n) 0
theorem Qar{n:Nat}(h:n<=256):(X6 n).length=256:=by simp[X6];omega
theorem Q6f{n m:Nat}(h:m<=n):(Qm (X6 n)).take m=Qm (List.replicate m 256):=by
 have:(List.replicate n (256:Int)++List.replicate (256-n) 0).take m=List.replicate m 256:=by rw[List.take_append_of_le_length (by simp;exact h),List.take_replicate];congr 1;omega
 rw[Qm,<-List.map_take,X6,this];rfl
theorem Qnh{n m:Nat}(h:n+m<=256):splice (Qm (X6 n)) n (Qm (List.replicate m 256))=Qm (X6 (n+m)):=by
 have e:splice (X6 n) n (List.replicate m 256)=X6 (n+m):=by unfold splice X6;rw[Zrx (by simp),Zso,Zry,Zrz (by simp),Zso,Zrg,List.drop_replicate,Zc9];congr 2;omega
 rw[<-e];simp[splice,Qm]
theorem Zbr{P:Program}{u e:TypeId}(hu:P.underlying u=some (.slice e)){q:Nat}(hs:sz P e=some q){g:Get}{f s o len c n:Nat}{k:IntKind}(h:n<=c)(h2:0<c)(h3:len<=c):
 Z9 P g u (.mS f s o len (some c) q) none (some (.int k n)) none=some (.mS f s o n (some c) q):=by
 simp only[Z9,By,hu,hs,if_true,Qsm,Qat,Zqi,Zqs];rw[if_pos ⟨by omega,by omega,by omega,by omega,by omega,by omega,by simp⟩];simp
theorem Q7a:Fz Tp Qf 259 [.iS [.int .i64 256] 1 true,.int .i64 256] fun x=>x= .iS (Qm (X6 256)) 256 true:=by
 refine Zp Tryz.func259 rfl ?_;obtain⟨m,rfl,hm⟩:=mul_fz.op (by rfl) rfl;have hm' :∀s H,_:=fun s H=>hm 259 0 s H rfl;have cv:∀g,convertV Tp g 3 197 (.int .i64 ((1:Nat):Int))=some (.val (.int .u64 1) none):=fun g=>by simp only[convertV,Zu3,Zu11];rfl
 have cv2:∀g,convertV Tp g 3 197 (.int .i64 256)=some (.val (.int .u64 256) none):=fun g=>by simp only[convertV,Zu3,Zu11];rfl
 have cv3:∀g,convertV Tp g 197 3 (.int .u64 256)=some (.val (.int .i64 256) none):=fun g=>by simp only[convertV,Zu3,Zu11];rfl
 have rm:J6 256 8=true:=by decide
 have hZ:zerosN [V.int .i64 0] 256=Qm (X6 0):=by kernel_rfl
 have hZ' :zerosN [V.int .i64 0] (256:Int).toNat=Qm (X6 0):=hZ;have c0:decide ((0:Int)>0)=false:=rfl;have c1:decide ((256:Int)>9223372036854775807)=false:=rfl;have cp0:Qa3 Tp (Qd [[(30,.cells (Qm (X6 0)))]]) 34 (.mS 0 30 0 256 (some 256) 1) (.iS [.int .i64 256] 1 true)=some (.val (.int .i64 1) (some (0,30,.cells (Qm (X6 1))))):=by have sc:Ba (Qd [[(30,.cells (Qm (X6 0)))]]) 1 (.iS [.int .i64 256] 1 true)=some (Qm (List.replicate 1 256),1):=rfl;have hg:Qd [[(30,O.cells (Qm (X6 0)))]] 0 30=some (.cells (Qm (X6 0))):=rfl;simp only[Qa3,Zu2,sz3,sc,Qau,hg,if_true];have sp:=Qnh (n:=0) (m:=1) (by omega);have tk:(Qm (List.replicate 1 256)).take (min 1 256*1)=Qm (List.replicate 1 256):=rfl;rw[tk,sp,if_pos ⟨by rw[Xv,Qar (by omega)];decide,rfl⟩];rfl
 simp only[Qki,Qdc,Qc8,Zm,Q9,Yy,nov,gd,rho,Qs,wr,Nat.reduceAdd,Nat.reduceSub,if_true,if_false,reduceIte,reduceCtorEq,Nat.reduceLT,Nat.reduceEqDiff,Nat.reduceMul,Nat.reduceLeDiff,Qh1,Int.reduceBEq,Int.reduceBNe,Int.reduceLT,Int.reduceLE,↓Qc,Tryz.ntmps259,ta,wH,cv,cv2,cv3,hm',c0,c1,Zu2,by64,Int.reduceToNat,rm,and_self,hZ,hZ',Qoi,cp0,Int.reduceGT];refine W.ul ?_;refine W.loopS (kt:=[7,8]) rfl (fun n:Nat=>Q3d (.mS 0 30 0 256 (some 256) 1) (.int .i64 n)) (fun n=>[[(30,.cells (Qm (X6 n)))]]) (fun n=>1<=n/\n<=256) (fun n=>256-n) ?_ 1 (by omega) rfl rfl;rintro n ⟨h1,h2⟩;simp only[Q3d];have len:=fun g=>Q7l (P:=Tp) Zu2 (f:=0) (s:=30) (o:=0) (len:=256) (esz:=1) (cap:=some 256) g;by_cases h:n<256
 . have c2:decide ((n:Int)<((256:Nat):Int))=true:=Zsw (by omega);have sl1:∀g,Z9 Tp g 34 (.mS 0 30 0 256 (some 256) 1) (some (.int .i64 n)) none none=some (.mS 0 30 n (256-n) (some (256-n)) 1):=fun g=>by
    have:=Qq7 (P:=Tp) (u:=34) Zu2 sz3 (f:=0) (s:=30) (o:=0) (len:=256) (c:=256) (w:=n) (k:= .i64) (by omega) (by omega) g;rw[this,if_neg (by omega)];simp
   have sl2:∀g,Z9 Tp g 34 (.mS 0 30 0 256 (some 256) 1) none (some (.int .i64 n)) none=some (.mS 0 30 0 n (some 256) 1):=fun g=>Zbr Zu2 sz3 (by omega) (by omega) (by omega);have cp:Qa3 Tp (Qd [[(30,.cells (Qm (X6 n)))]]) 34 (.mS 0 30 n (256-n) (some (256-n)) 1) (.mS 0 30 0 n (some 256) 1)=some (.val (.int .i64 (min n (256-n):Nat)) (some (0,30,.cells (Qm (X6 (n+min n (256-n))))))):=by
    have hg:Qd [[(30,O.cells (Qm (X6 n)))]] 0 30=some (.cells (Qm (X6 n))):=rfl;have hl:(Qm (X6 n)).length=256:=by rw[Xv,Qar h2]
    have sc:Ba (Qd [[(30,.cells (Qm (X6 n)))]]) 1 (.mS 0 30 0 n (some 256) 1)=some (Qm (List.replicate n 256),n):=by simp only[Ba,Qj,hg,Zr1,Zp7,Q6f (Zpp n)];rw[if_pos ⟨trivial,by rw[hl];omega⟩]
    have tk:(Qm (List.replicate n 256)).take (min n (256-n)*1)=Qm (List.replicate (min n (256-n)) 256):=by
     rw[Zp7,Qm,<-List.map_take,List.take_replicate];have:min (min n (256-n)) n=min n (256-n):=by omega
     rw[this];rfl
    simp only[Qa3,Zu2,sz3,sc,Qau,hg,if_true,tk];rw[Qnh (by omega),if_pos ⟨by rw[hl];omega,Qsw _⟩]
   have w1:(IntKind.i64).wrap ((n:Int)+((min n (256-n):Nat):Int))=((n+min n (256-n):Nat):Int):=by rw[wrap_i64]<;>omega
   simp only[Qki,Qdc,Qc8,Zm,Q9,Yy,nov,gd,rho,Qs,wr,Nat.reduceAdd,Nat.reduceSub,if_true,if_false,reduceIte,reduceCtorEq,Nat.reduceLT,Nat.reduceEqDiff,Nat.reduceMul,Nat.reduceLeDiff,Qh1,Int.reduceBEq,Int.reduceBNe,Int.reduceLT,Int.reduceLE,↓Qc,len,c2,sl1,sl2,Qoi,cp,wH];refine W.opsK (by kernel_rfl) ?_;simp only[wA,↓Qc,simprocAttr,w1];exact W.done ⟨n+min n (256-n),rfl,rfl,by omega,by omega⟩
 . have c2:decide ((n:Int)<((256:Nat):Int))=false:=Zsx (by omega);have hn:n=256:=by omega
   subst hn;simp only[wA,↓Qc,simprocAttr,len,c2];refine W.done ?_;simp only[wA,↓Qc,simprocAttr];refine W.done (Zc.normal (v:= .mS 0 30 0 256 (some 256) 1) rfl ?_ rfl);have e:((Qm (X6 256)).drop 0).take (256*1)=Qm (X6 256):=by rw[Zr1,Zr8];rw[Xv,Qar (Zpp _)];exact Zpp _
   have:=Qcy (g:=Qd [[(30,O.cells (Qm (X6 256)))]]) (f:=0) (s:=30) (o:=0) (len:=256) (esz:=1) (cap:=some 256) (m:=10) rfl (by rw[Xv,Qar (Zpp _)];exact Zpp _) (by rw[e];exact Qdu _ _ _);rw[e] at this;exact this
theorem Q1f(x:V)(n:Nat):zerosN [x] n=List.replicate n x:=by
 induction n with
 |zero=>rfl
 |succ n ih=>show[x]++zerosN [x] n=_;rw[ih,List.replicate_succ];rfl
theorem Qyr(x:V):Bt (fun _=>List.replicate 256 x) (zerosN [x] 65536) 256=zerosN [x] 65536:=by
 rw[Q1f];refine List.eq_replicate_iff.2 ⟨?_,?_⟩
 . exact Qfr (by rw[Zso]) (Zpp _) (fun j _=>by rw[Zso])
 . intro b hb;unfold Bt at hb;rcases Zp8.1 hb with h|h
   . obtain⟨l,hl,hbl⟩:=List.mem_flatten.1 h;obtain⟨j,_,rfl⟩:=Zp3.1 hl;exact(List.mem_replicate.1 hbl).2
   . exact(List.mem_replicate.1 (List.mem_of_mem_drop h)).2
def newV:V:= .agg [.iS (List.replicate 256 (.iS (List.replicate 256 (.int .u8 0)) 256 true)) 256 false,.nS]
theorem Q0q:encD (fun _=>List.replicate 256 (.int .u8 0)) (fun _=>0) (fun _=>[]) 0=newV:=by
 have e:((List.range 256).map fun j=>V.iS ((fun _=>List.replicate 256 (V.int .u8 0)) j) 256 true)=List.replicate 256 (.iS (List.replicate 256 (.int .u8 0)) 256 true):=by rw[List.map_const',List.length_range]
 show V.agg [.iS ((List.range 256).map fun j=>V.iS ((fun _=>List.replicate 256 (V.int .u8 0)) j) 256 true) 256 false,if 0=0 then .nS else _]=_;rw[e,if_pos rfl];rfl
theorem new_fz:Fz Tp Qf 183 [] fun x=>x=newV:=by
 refine Zp Tryz.func183 rfl ?_;obtain⟨m,rfl,hm⟩:=Q7a.op (by rfl) rfl;have hm' :∀s H,_:=fun s H=>hm 183 0 s H rfl;have hr:∀i,i<256->(X6 256)[i]?=some 256:=fun i hi=>by
  have:X6 256=List.replicate 256 256:=by simp only[X6,Nat.sub_self,List.replicate_zero,Zqd]
  rw[this,List.getElem?_replicate,if_pos hi]
 have hv:Ke (.iS (Qm (X6 256)) 256 true) (X6 256):=by have:=Ke.mk (X6 256) true;rwa[Qar (Zpp _)] at this
 have hwF:WF [[(0,O.cells [.nS,.nS])]]:=rfl;obtain⟨rr,KK,hcall,rfl,rfl⟩:=Zat [[(0,.cells [.nS,.nS])]] hwF (.iS (Qm (X6 256)) 256 true) (X6 256) (Qar (Zpp _)) hr hv;have hcall' :callOp Qf (Qq Tp Qf) 183 0 (some 3) 107 [.iS (Qm (X6 256)) 256 true] [[(0,.cells [.nS,.nS])]]=some (.ret (.gS 1 33 (Kb 1 256) 256 1),[[(0,.cells [.nS,.nS])],[(20,.cells (zerosN [.int .u8 0] 65536)),(33,.grow 256)]]):=
  Qhb rfl rfl rfl rfl hcall
 generalize hZ:zerosN [V.int .u8 0] 65536=Z at hcall';generalize hR:Kb 1 256=R at hcall';generalize hQ:Qm (X6 256)=Q at hm' hcall';have mt1:Qf.mt 183 1=false:=rfl;simp only[wX,↓Qc,simprocAttr,Tryz.ntmps183,mt1,hm',hcall',Zu2,sz3,zc3];refine W.done (Zc.ret (v:= .agg [.gS 1 33 R 256 1,.nS]) ?_ ?_ rfl)
 . exact Xw (f:=0) (s:=0) (o:=0) (xs:=[.gS 1 33 R 256 1,.nS]) rfl rfl rfl (by rw[rd55];rfl)
 rw[<-Q0q,<-hR];refine Qqj 0 _ (fun _=>List.replicate 256 (.int .u8 0)) (zerosN [.int .u8 0] 65536) (fun _=>0) (fun _=>[]) 0 (fun i _=>⟨by rw[Zso],by
  rw[Zqt];intro x hx;rw[(List.mem_replicate.1 hx).2];rfl⟩) (Qcp _ _) ?_
 rw[Qyr,hZ];rfl
def ent(x:Int×V):V×V:=(.int .i64 x.1,.agg [.int .i64 x.1,x.2])
def Qbe:List (Int×V)->Int->V->List (Int×V)
 |[],k,v=>[(k,v)]
 |(k',v')::r,k,v=>if k=k' then(k,v)::r else(k',v')::Qbe r k v
theorem Q72(k:Int)(v:V):∀(L:List (Int×V)) (i0:Nat),
 (∃j x,findKey (.int .i64 k) (L.map ent) i0=some (some (i0+j,x))/\(L.map ent).set j (ent (k,v))=(Qbe L k v).map ent/\(Qbe L k v).length=L.length)\/
 (findKey (.int .i64 k) (L.map ent) i0=some none/\L.map ent++[ent (k,v)]=(Qbe L k v).map ent/\(Qbe L k v).length=L.length+1)
 |[],i0=> .inr ⟨rfl,rfl,rfl⟩
 |(k',v')::r,i0=>by
  have e:findKey (.int .i64 k) (((k',v')::r).map ent) i0=(match(if(k==k') then some true else some false:Option Bool) with
   |some true=>some (some (i0,(ent (k',v')).2))
   |some false=>findKey (.int .i64 k) (r.map ent) (i0+1)
   |none=>none):=by
   show(match(if IntKind.i64=IntKind.i64 then some (k==k') else none:Option Bool) with
   |some true=>some (some (i0,(ent (k',v')).2))
   |some false=>findKey (.int .i64 k) (r.map ent) (i0+1)
   |none=>none)=_
   rw[if_pos rfl];cases(k==k')<;>rfl
  rw[e];by_cases h:k=k'
  . subst h;refine .inl ⟨0,_,by simp;rfl,?_,?_⟩
    . simp[Qbe]
    . simp[Qbe]
  . have hb:(k==k')=false:=by simp[h]
    rw[hb];simp only[Zpo,if_false,Qbe,h];rcases Q72 k v r (i0+1) with⟨j,x,h1,h2,h3⟩|⟨h1,h2,h3⟩
    . refine .inl ⟨j+1,x,by rw[h1];congr 3;omega,?_,?_⟩
      . simp only[Zp4,List.set_cons_succ,h2]
      . simp only[Zq2,h3]
    . exact .inr ⟨h1,by simp only[Zp4,Zqo,h2],by simp only[Zq2,h3]⟩
def Qkl(L:List (Int×V)):O:= .map (L.map ent) (List.range L.length) L.length
theorem upd_L{g:Get}{f s:Nat}{L:List (Int×V)}(k:Int)(v:V)(hg:g f s=some (Qkl L)):
 updateV Tp g 313 (.map f s) (.int .i64 k) (.agg [.int .i64 k,v])=some (.val .bad (some (f,s,Qkl (Qbe L k v)))):=by
 have hk:Kj (.int .i64) (.int .i64 k)=true:=rfl;unfold Qkl at hg;simp only[updateV,Tryz.underlying313,Zu3,hk,if_true,hg];rcases Q72 k v L 0 with⟨j,x,h1,h2,h3⟩|⟨h1,h2,h3⟩
 . simp only[h1,Zpw];unfold Qkl;rw[h3,<-h2];rfl
 . simp only[h1];unfold Qkl;rw[h3,<-h2,Zsk];rfl
def X8(a:Nat->Int)(dv:Nat->V):Nat->List (Int×V)
 |0=>[]
 |i+1=>Qbe (X8 a dv i) (a i) (dv i)
theorem all_fz(i:Int):Fz Tp Qf 276 [.int .i64 i] fun x=>x= .bool true:=by refine Zp Tryz.func276 rfl ?_;simp only[wA,↓Qc,simprocAttr,Tryz.ntmps276];exact W.done (Zc.ret rfl rfl rfl)
def laF(bv wv:V)(L:List (Int×V)):AM.Frame:=[(2,.cells [bv,wv]),(8,Qkl L)]
def laF' (bv wv:V)(y:List V)(L:List (Int×V)):AM.Frame:=[(2,.cells [bv,wv]),(7,.cells y),(8,Qkl L)]
theorem Q6r{cs:List V}{n i:Nat}{a:Int}{x:V}(h:i<n)(hl:cs.length=n*2)(e1:cs[2*i]?=some (.int .i64 a))(e2:cs[2*i+1]?=some x):
 Qr Tp 134 cs ((i:Int).toNat*2)=some (.agg [.int .i64 a,x]):=by
 have e:(i:Int).toNat*2=2*i:=by omega
 rw[e,Qtg,if_pos (by omega)];obtain⟨l1,g1⟩:=Zq0.1 e1;obtain⟨l2,g2⟩:=Zq0.1 e2;rw[Zsn l1,Zrv,Zsn l2,Zrv,List.take_zero,g1,g2]
theorem Qgt:∀(L:List (Int×V)) (k:Int) (v:V) (x:Int×V),x∈Qbe L k v->x=(k,v)\/x∈L
 |[],k,v,x,h=> .inl (by simpa [Qbe] using h)
 |(k',v')::r,k,v,x,h=>by
  simp only[Qbe] at h;split at h
  . rcases Zpy.1 h with rfl|h
    . exact .inl rfl
    . exact .inr (Zp0 _ h)
  . rcases Zpy.1 h with rfl|h
    . exact .inr (Zpz)
    . rcases Qgt r k v x h with e|e
      . exact .inl e
      . exact .inr (Zp0 _ e)
theorem Qt1(a:Nat->Int)(dv:Nat->V):∀(i:Nat) (x:Int×V),x∈X8 a dv i->∃j,j<i/\x.2=dv j
 |0,x,h=>by cases h
 |i+1,x,h=>by
  rcases Qgt _ _ _ _ h with rfl|h
  . exact⟨i,by omega,rfl⟩
  . obtain⟨j,hj,e⟩:=Qt1 a dv i x h;exact⟨j,by omega,e⟩
theorem Qt3(p:Nat->Nat->Bool)(L:List (Int×V))(h:∀x∈L,x.2.refs p=false):(Qkl L).refs p=false:=by
 show Qhn p (L.map ent)=false
 induction L with
 |nil=>rfl
 |cons x L ih=>
  have h1:=h x (by simp);have h2:=ih (fun y hy=>h y (by simp[hy]));simp only[Zp4,Qhn,ent,V.refs,Qh,h1,h2];rfl
theorem orc{p:Nat->Nat->Bool}{xs:List V}:(O.cells xs).refs p=Qh p xs:=rfl
theorem Q7z(K:Heap)(hw:WF K)(bv wv:V)(hbs:bv.scalar=true)(hbr:bv.refs (fun f _=>Nat.ble K.length f)=false)(cs:List V)(n:Nat)(hv:Qv 2 wv cs n)(hn:n<=4096)(a:Nat->Int)(dv:Nat->V)
 (hwait:∀j,j<n->cs[2*j]?=some (.int .i64 (a j))/\cs[2*j+1]?=some (dv j))(hdv:∀j,j<n->∃c fl,dv j= .iS c 256 fl)(sv:V)(hso:sv= .func (.func 276) [] []\/n=0)(hsr:∀p,sv.refs p=false):
 CW Tp Qf 239 [.agg [bv,wv],sv] K fun r K' =>r= .ret (.map K.length 8)/\K' =K++[laF bv wv (X8 a dv n)]:=by
 refine Ye Tryz.func239 rfl ?_;have lw:=hv.len Zu4;have wsc:wv.scalar=true:=Qlh hv;simp only[wA,↓Qc,simprocAttr,Tryz.ntmps239,ta,wG,wB,hbs,wsc,lw,Tryz.underlying313];refine W.ul ?_;refine W.loop (fun(i:Nat) t H=>∃F:AM.Frame,Jj [1,5,10,11,12] t 0=Qwb sv (.map K.length 8) wv (.int .i64 n) (.int .i64 i)/\i<=n/\H=K++[F]/\(F=laF bv wv (X8 a dv i)\/∃y,F=laF' bv wv y (X8 a dv i)))
  (fun i=>n-i) ?_ 0 ⟨_,rfl,by omega,rfl,.inl rfl⟩ rfl
 rintro i t H ⟨F,ht,hi,rfl,hF⟩;have hd:(K++[F]).modify K.length (Jk fun s=>[7].contains s)=K++[laF bv wv (X8 a dv i)]:=by have:=Qdp (Jk fun s=>[7].contains s) K [F] 0;refine this.trans ?_;rcases hF with rfl|⟨y,rfl⟩<;>rfl
 have bvr:bv.refs (fun f s=>f==K.length&&[7].contains s)=false:=Qbq (fun f s h=>by simp at h;simp;omega) bv hbr;have wvr:wv.refs (fun f s=>f==K.length&&[7].contains s)=false:=hv.noRefs _;have mr:∀p:Nat->Nat->Bool,(Qkl (X8 a dv i)).refs p=false:=fun p=>Qt3 p _ (fun x hx=>by
  obtain⟨j,hj,e⟩:=Qt1 a dv i x hx;obtain⟨c,fl,e2⟩:=hdv j (by omega)
  rw[e,e2];rfl)
 refine⟨_,_,Zq (kt:=[1,5,10,11,12]) (ds:=[7]) rfl ?_ ?_,?_⟩
 . rw[ht];simp only[Qwb,Qh,V.refs,wvr,hsr];simp
 . rw[hd,B5,Qd0 hw (fun f s h=>by simp at h;omega)];simp only[laF,Zb,Q0,orc,Qh,bvr,wvr,mr];rfl
 rw[ht,hd];simp only[Qwb];by_cases h:i<n
 . have c1:decide ((i:Int)<n)=true:=Zsw (by omega);have w1:=Y1 (i:=i) (by omega);have hsv:=hso.resolve_right (by omega);subst hsv;obtain⟨e1,e2⟩:=hwait i h;have at1:=hv.at (k:= .i64) Zu4 Qdq (by decide) (i:=(i:Int)) (by omega) (by omega);have ldw:=Q6r h hv.1 e1 e2;obtain⟨m,rfl,hm⟩:=(all_fz (i:Int)).op (by rfl) rfl;have hm' :∀s H,_:=fun s H=>hm 239 K.length s H rfl;have dsc:(dv i).scalar=true:=by obtain⟨c,fl,e⟩:=hdv i h;rw[e];rfl
   have up:=upd_L (g:=Qd (K++[[(2,.cells [bv,wv]),(7,.cells [.int .i64 (a i),dv i]),(8,Qkl (X8 a dv i))]])) (f:=K.length) (s:=8) (L:=X8 a dv i) (a i) (dv i) (by rw[J2];rfl);have eL:Qbe (X8 a dv i) (a i) (dv i)=X8 a dv (i+1):=rfl;rw[eL] at up;simp only[laF];generalize hO:Qkl (X8 a dv i)=O1 at up⊢;generalize hO2:Qkl (X8 a dv (i+1))=O2 at up;simp only[wA,↓Qc,simprocAttr,c1,at1,ldw,ta,wG,wB,w1,hm',dsc,up];exact W.done ⟨i+1,⟨_,rfl,by omega,rfl,.inr ⟨_,by rw[<-hO2];rfl⟩⟩,by omega⟩
 . have c1:decide ((i:Int)<n)=false:=Zsx (by omega);have hi2:i=n:=by omega
   subst hi2;simp only[wA,↓Qc,simprocAttr,c1];refine W.done ?_;simp only[wA,↓Qc,simprocAttr];refine W.done (End.ret (v:= .map K.length 8) rfl ?_);rw[Z2 (by simp[V.refs])];exact⟨rfl,rfl⟩
end
end Go.Proofs.YtpdimkonjmoadaaGreatDoor
