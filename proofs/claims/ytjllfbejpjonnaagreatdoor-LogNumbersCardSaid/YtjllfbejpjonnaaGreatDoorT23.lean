/- This file holds in one the texts D3, D4, D5, D6, D7, D8, D9; each says at its head what it proves. -/
import Derived.Test.YtjllfbejpjonnaaGreatDoorT12
import Derived.Test.YtjllfbejpjonnaaGreatDoorT18
import Derived.Test.YtjllfbejpjonnaaGreatDoorT22
set_option linter.unusedSimpArgs false
set_option linter.unusedVariables false
namespace Go.Proofs.YtjllfbejpjonnaaGreatDoor
section
set_option maxRecDepth 100000
open Go.AM
attribute [local irreducible] U W
theorem Qle{esz n:Nat}{v:V}{cells:List V}(h:Qw esz v cells n):v.scalar=true:=by obtain⟨_,⟨rfl,_⟩|⟨f,rfl⟩⟩:=h<;>rfl
def rep(i:Nat):List Int:=List.replicate i 256
theorem Qp4(i:Nat):(rep i).length=i:=by simp[rep]
theorem Zd6{n i:Nat}(h:i<n):(rep n)[i]?=some 256:=by unfold rep;rw[List.getElem?_replicate,if_pos h]
theorem Q95(i:Nat):rep (i+1)=rep i++[256]:=by simp[rep,List.replicate_succ']
def Qhp(k i:Nat):V:=if i=0 then .nS else .gS k 21 (Qz (rep i)) i 1
def Qio(bv wv:V)(i:Nat):AM.Frame:=if i=0 then[(1,.cells [bv,wv]),(2,.cells [.nS,.nS])] else[(1,.cells [bv,wv]),(2,.cells [.nS,.nS]),(21,.grow i)]
theorem Q5l(K:Heap)(bv wv:V)(i:Nat)(hi:i<256):
 Qr Tp (Qg.mt 72) K.length (Qd (K++[Qio bv wv i])) (some 21) 32 32 (Qhp K.length i) (.iS [.int .i64 256] 1 true)=
  some (.val (Qhp K.length (i+1)) (some (K.length,21,.grow (i+1)))):=by
 have g21:Qd (K++[Qio bv wv i]) K.length 21=if i=0 then none else some (.grow i):=by
  rw[J9];show Xx (Qio bv wv i) 21=_;unfold Qio;by_cases h:i=0
  . simp only[h,if_true];rfl
  . simp only[h,if_false];rfl
 have sc:∀g,Qk g 1 (.iS [.int .i64 256] 1 true)=some ([.int .i64 256],1):=fun g=>rfl;unfold Qhp;rw[if_neg (Zq4 i),Q95];by_cases h:i=0
 . subst h;simp only[if_true] at g21⊢;rw[Qcp Zu4 sz3 by64 zc3 rfl Zu4 (sc _) (by decide) (by decide),Kr rfl rfl g21];rfl
 . simp only[h,if_false] at g21⊢;rw[Qc8 Zu4 sz3 by64 zc3 rfl Zu4 (sc _) (by decide) (Zw (by omega) (by omega)) rfl rfl g21];simp[Qz]
def Bx(r:Nat->List V)(Z:List V)(i:Nat):List V:=((List.range i).map r).flatten++Z.drop (256*i)
theorem Qen{r:Nat->List V}:∀{i:Nat},(∀j,j<i->(r j).length=256)->((List.range i).map r).flatten.length=256*i
 |0,_=>rfl
 |i+1,h=>by
  rw[Zq3,Zqz,Zon,Zom,Qen (fun j hj=>h j (by omega))];simp[h i (by omega)];omega
theorem Q16(r:Nat->List V)(Z:List V):Bx r Z 0=Z:=by simp[Bx]
theorem Qgi{r:Nat->List V}{Z:List V}(hZ:Z.length=65536){i:Nat}(hi:i<=256)(h:∀j,j<256->(r j).length=256):(Bx r Z i).length=65536:=by rw[Bx,Zom,Qen (fun j hj=>h j (by omega)),Zo2,hZ];omega
theorem Qvd{r:Nat->List V}{Z:List V}(hZ:Z.length=65536){i:Nat}(hi:i<256)(h:∀j,j<256->(r j).length=256):splice (Bx r Z i) (256*i) (r i)=Bx r Z (i+1):=by
 have hf:=Qen (r:=r) (i:=i) (fun j hj=>h j (by omega));unfold splice Bx;rw[Zq3,Zqz,Zon,List.take_left' hf,List.drop_append,hf,Zqe (by rw[hf,h i hi];omega),h i hi];have e:256*i+256-256*i=256:=by omega
 rw[e,Zol];have e2:256*i+256=256*(i+1):=by omega
 rw[e2];simp
theorem Qcs(n:Nat)(x:V):(zerosN [x] n).length=n:=by
 induction n with
 |zero=>rfl
 |succ n ih=>simp[zerosN,ih]
theorem Q56(k:Nat){n i:Nat}(h:i<n):(Ke k n)[i]?=some (.mS k 20 (256*i) 256 (some 256) 1):=by simp[Ke,h]
theorem Q05(k:Nat):Qu (Ke k 256)=false:=by show Qu ((List.range (255+1)).map fun j=>V.mS k 20 (256*j) 256 (some 256) 1)=false;rw[List.range_succ_eq_map];rfl
theorem Zey{P:Program}{t:TypeId}{g:Get}{cs:List V}{o:Nat}:ldV P t g (.rptr cs o)=Q3 P t cs o:=rfl
theorem Q8f{g:Get}{f s o:Nat}{xs c:List V}{fl:Bool}(hc:Jv c)(hg:g f s=some (.cells xs))(hl:o+256<=xs.length):
 Qa9 Tp g 26 (.mS f s o 256 (some 256) 1) (.iS c 256 fl)=some (.val (.int .i64 256) (some (f,s,.cells (splice xs o c)))):=by
 have sc:Bh g 1 (.iS c 256 fl)=some (c,256):=by simp[Bh,Qk,hc.1]
 have tk:c.take (min 256 256*1)=c:=Zpf (by rw[hc.1];decide);simp only[Qa9,Zu0,sz5,sc,Qa6,hg,if_true,tk,Qn0 hc.2];rw[if_pos ⟨by omega,trivial⟩];rfl
theorem Q02{r:Nat->List V}{Z:List V}(p:Nat->Nat->Bool)(h:∀j,j<256->(r j).all Qiz=true)(hz:∀p,Qi p Z=false):Qi p (Bx r Z 256)=false:=by
 have app:∀a b:List V,Qi p a=false->Qi p b=false->Qi p (a++b)=false:=by
  intro a b ha hb
  induction a with
  |nil=>exact hb
  |cons x a iha=>simp only[Qi,Zo8,Zox] at ha⊢;exact⟨ha.1,iha ha.2⟩
 have dr:∀(l:List V) (m:Nat),Qi p l=false->Qi p (l.drop m)=false:=by
  intro l
  induction l with
  |nil=>intro m _;simp[Qi]
  |cons x l ih=>intro m h;cases m with
   |zero=>exact h
   |succ m=>simp only[Qi,Zox] at h;exact ih m h.2
 have fl:∀i,i<=256->Qi p ((List.range i).map r).flatten=false:=by
  intro i
  induction i with
  |zero=>intro _;rfl
  |succ i ih=>
   intro hi;rw[Zq3,Zqz,Zon];refine app _ _ (ih (by omega)) ?_;simp only[Zo4,Zpm,List.flatten_cons,List.flatten_nil,Zou];exact Qtu p (h i (by omega))
 exact app _ _ (fl 256 (Zn6 _)) (dr _ _ (hz p))
def Qa7(a:Nat->Int)(d:Nat->List V)(i:Nat):List V:=((List.range i).map fun j=>[V.int .i64 (a j),.iS (d j) 256 false]).flatten
theorem Qb4(a:Nat->Int)(d:Nat->List V)(i:Nat):Qa7 a d (i+1)=Qa7 a d i++[.int .i64 (a i),.iS (d i) 256 false]:=by simp[Qa7,Zq3]
def Ky(k:Nat)(a:Nat->Int)(d:Nat->List V)(i:Nat):V:=if i=0 then .nS else .gS k 58 (Qa7 a d i) i 2
theorem Qm0(p:Nat->Nat->Bool)(a:Nat->Int)(d:Nat->List V):∀i,Qi p (Qa7 a d i)=false
 |0=>rfl
 |i+1=>by
  rw[Qb4];have app:∀a b:List V,Qi p a=false->Qi p b=false->Qi p (a++b)=false:=by
   intro a b ha hb
   induction a with
   |nil=>exact hb
   |cons x a iha=>simp only[Qi,Zo8,Zox] at ha⊢;exact⟨ha.1,iha ha.2⟩
  exact app _ _ (Qm0 p a d i) rfl
theorem Q6d(k:Nat)(a:Nat->Int)(d:Nat->List V)(i:Nat):(Ky k a d i).refs (fun f s=>f==k&&[9].contains s)=false:=by
 unfold Ky;split
 . rfl
 . simp only[V.refs,Qm0];simp
def Qln(bv wv g o:V)(i:Nat):AM.Frame:=if i=0 then[(1,.cells [bv,wv]),(2,.cells [g,o]),(21,.grow 256)] else[(1,.cells [bv,wv]),(2,.cells [g,o]),(21,.grow 256),(58,.grow i)]
def Qs8(bv wv g o:V)(y:List V)(i:Nat):AM.Frame:=if i=0 then[(1,.cells [bv,wv]),(2,.cells [g,o]),(21,.grow 256)] else[(1,.cells [bv,wv]),(2,.cells [g,o]),(9,.cells y),(21,.grow 256),(58,.grow i)]
theorem Zao(bv wv g o:V)(y:List V)(i:Nat):Ju (fun s=>[9].contains s) (Qs8 bv wv g o y i)=Qln bv wv g o i:=by unfold Qln Qs8;split<;>rfl
theorem Qzx{cs:List V}{n i:Nat}{a:Int}{c:List V}{fl:Bool}(h:i<n)(hl:cs.length=n*2)(e1:cs[2*i]?=some (.int .i64 a))(e2:cs[2*i+1]?=some (.iS c 256 fl)):
 Q3 Tp 101 cs ((i:Int).toNat*2)=some (.agg [.int .i64 a,.iS c 256 fl]):=by
 have e:(i:Int).toNat*2=2*i:=by omega
 rw[e,Q32,if_pos (by omega)];have g1:=Zoq.1 e1;have g2:=Zoq.1 e2;obtain⟨l1,g1⟩:=g1;obtain⟨l2,g2⟩:=g2;rw[Zqt l1,Zqb,Zqt l2,Zqb,List.take_zero,g1,g2]
def Qgb(bv wv g o:V)(y:List V)(i:Nat):AM.Frame:=if i=0 then[(1,.cells [bv,wv]),(2,.cells [g,o]),(9,.cells y),(21,.grow 256)] else[(1,.cells [bv,wv]),(2,.cells [g,o]),(9,.cells y),(21,.grow 256),(58,.grow i)]
def twF5(bv wv g o:V)(y:List V)(i:Nat):AM.Frame:=[(1,.cells [bv,wv]),(2,.cells [g,o]),(9,.cells y),(21,.grow 256),(58,.grow (i+1))]
theorem byW:byt Tp 101=some 32:=by kernel_rfl
theorem Q40(K:Heap)(bv wv g:V)(y:List V)(a:Nat->Int)(d:Nat->List V)(G:Heap)(i:Nat)(hi:i<4096):
 Qr Tp (Qg.mt 72) K.length (Qd (K++Qgb bv wv g (Ky K.length a d i) y i::G)) (some 58) 23 23 (Ky K.length a d i) (.iS [.int .i64 (a i),.iS (d i) 256 false] 1 true)=
  some (.val (Ky K.length a d (i+1)) (some (K.length,58,.grow (i+1)))):=by
 have g58:Qd (K++Qgb bv wv g (Ky K.length a d i) y i::G) K.length 58=if i=0 then none else some (.grow i):=by
  rw[J9];show Xx (Qgb bv wv g _ y i) 58=_;unfold Qgb;by_cases h:i=0
  . simp only[h,if_true];rfl
  . simp only[h,if_false];rfl
 have sc:∀g,Qk g 2 (.iS [.int .i64 (a i),.iS (d i) 256 false] 1 true)=some ([.int .i64 (a i),.iS (d i) 256 false],1):=fun g=>rfl;unfold Ky at g58⊢;rw[if_neg (Zq4 i),Qb4];by_cases h:i=0
 . subst h;simp only[if_true] at g58⊢;rw[Qcp Zu5 Qcm byW Qnm rfl Zu5 (sc _) (by decide) (by decide),Kr rfl rfl g58];rfl
 . simp only[h,if_false] at g58⊢;rw[Qc8 Zu5 Qcm byW Qnm rfl Zu5 (sc _) (by decide) (Zw (by omega) (by omega)) rfl rfl g58]
theorem Qif{P:Program}{F:Func}{t:List V}{H:Heap}{a:Nat}{T:TypeId}{f s o:Nat}{xs:List V}{v:V}(hF:F.results.toList=[.cell a T])(ht:t.getD a .bad= .ptr f s o)(hg:Qd H f s=some (.cells xs))(hr:Q3 P T xs o=some v):Qcb P F t H=some v:=by
 have h1:Qak P t H (.cell a T)=some v:=by
  show(match t.getD a .bad with
   | .ptr f s o=>(match Qd H f s with
     |some (.cells xs)=>Q3 P T xs o
     |_=>none)
   |_=>none)=_
  rw[ht];show(match Qd H f s with
   |some (.cells xs)=>Q3 P T xs o
   |_=>none)=_
  rw[hg];exact hr
 have h2:Qha P t H [.cell a T]=some [v]:=by
  show(match Qak P t H (.cell a T),(some []:Option (List V)) with
   |some v,some vs=>some (v::vs)
   |_,_=>none)=_
  rw[h1]
 unfold Qcb;rw[hF,h2]
theorem Q3p(K:Heap)(hw:WF K)(bv wv:V)(r:Nat->List V)(hb:Qo9 K bv r)(cs:List V)(n:Nat)(hv:Qw 2 wv cs n)(hn:n<=4096)(a:Nat->Int)(d:Nat->List V)
 (hwait:∀j,j<n->cs[2*j]?=some (.int .i64 (a j))/\∃fl,cs[2*j+1]?=some (.iS (d j) 256 fl))(hdata:∀j,j<n->Jv (d j)):
 CW Tp Qg 72 [.agg [bv,wv]] K fun rr K' =>rr= .ret (.agg [.gS (K.length+1) 33 (Ke (K.length+1) 256) 256 1,Ky K.length a d n])/\
  K' =K++[Qln bv wv (.gS (K.length+1) 33 (Ke (K.length+1) 256) 256 1) (Ky K.length a d n) n,[(20,.cells (Bx r (zerosN [.int .u8 0] 65536) 256)),(33,.grow 256)]]:=by
 generalize hZ:zerosN [V.int .u8 0] 65536=Z;refine Zu Tryz.func72 rfl ?_;obtain⟨p,q,hp,hq,hfl⟩:=hb.ex;have len:=hb.len;have lw:=hv.len Zu5;have wsc:wv.scalar=true:=Qle hv;simp only[wA,↓Qc,simprocAttr,Tryz.ntmps72,ta,wG,wB,hb.sc,wsc,len];refine W.ul ?_;refine W.loopS (kt:=[1,2,3,11,12,13]) rfl (fun i:Nat=>Zay (.ptr K.length 1 0) (.ptr K.length 2 0) (Qhp K.length i) bv (.int .i64 256) (.int .i64 i)) (fun i=>K++[Qio bv wv i]) (fun i=>i<=256) (fun i=>256-i) ?_ 0 (by omega) rfl rfl;rintro i hi;simp only[Zay];by_cases h:i<256
 . have c1:decide ((i:Int)<256)=true:=Zrh (by omega);have w1:=Qao (i:=i) (by omega);obtain⟨fl,hfi⟩:=hfl i h;have hqi:=fun G=>hq i h G;rw[hfi] at hqi;have ap:Qr Tp (Qg.mt 72) K.length (Qd (K++[Qio bv wv i])) (some 21) 32 32 (Qhp K.length i) (.iS [.int .i64 ((256:Nat):Int)] 1 true)=some (.val (Qhp K.length (i+1)) (some (K.length,21,.grow (i+1)))):=Q5l K bv wv i h;have mt20:Qg.mt 72 20=false:=rfl;have s21:hset (K++[Qio bv wv i]) K.length 21 (.grow (i+1))=K++[Qio bv wv (i+1)]:=by
    rw[X9];show K++[Kq (Qio bv wv i) 21 _]=_;unfold Qio;rw[if_neg (Zq4 i)];split<;>rfl
   simp only[Qmi,Qey,Qfg,Zv,Zk,Kf,nov,gd,rho,Q1,wr,Nat.reduceAdd,Nat.reduceSub,if_true,if_false,reduceIte,reduceCtorEq,Nat.reduceLT,Nat.reduceEqDiff,Nat.reduceMul,Nat.reduceLeDiff,Qgv,Int.reduceBEq,Int.reduceBNe,Int.reduceLT,Int.reduceLE,↓Qc,c1,hp i h,hqi,ta,wB,w1,mt20,Qv,ap,s21,Zu4];exact W.done ⟨i+1,rfl,rfl,by omega,by omega⟩
 . have c1:decide ((i:Int)<256)=false:=Zri (by omega);have hi2:i=256:=by omega
   subst hi2;simp only[wA,↓Qc,simprocAttr,c1];refine W.done ?_;have hwF:WF (K++[Qio bv wv 256]):=by refine WF.app hw ?_;have b1:bv.refs (fun f _=>Nat.ble (K.length+1) f)=false:=Qbq (Qa0 (Nat.le_succ _)) bv hb.refs;have b2:wv.refs (fun f _=>Nat.ble (K.length+1) f)=false:=hv.noRefs _;show Q2 (fun f _=>Nat.ble (K.length+1) f) [[(1,.cells [bv,wv]),(2,.cells [.nS,.nS]),(21,.grow 256)]]=true;simp only[Q2,Zg,O.refs,Qi,V.refs,b1,b2];rfl
   obtain⟨rr,KK,hcall,rfl,rfl⟩:=Q7j (K++[Qio bv wv 256]) hwF (.iS (Qz (rep 256)) 256 false) (rep 256) (Qp4 256) (fun i hi=>Zd6 hi) (by
    have:=Xg.mk (rep 256) false
    rwa[Qp4] at this)
   have hk1:(K++[Qio bv wv 256]).length=K.length+1:=by simp
   have hcall' :callOp Qg (Qn Tp Qg) 72 K.length (some 24) 116 [Qhp K.length 256] (K++[Qio bv wv 256])=
    some (.ret (.gS (K.length+1) 33 (Ke (K.length+1) 256) 256 1),K++[Qio bv wv 256,[(20,.cells (zerosN [.int .u8 0] 65536)),(33,.grow 256)]]):=by
    refine Qnn rfl rfl rfl (args' :=[.iS (Qz (rep 256)) 256 false]) ?_ ?_
    . have e:Qhp K.length 256= .gS K.length 21 (Qz (rep 256)) 256 1:=rfl;rw[e];have f1:frz (fun _ _=>none) 12 (.gS K.length 21 (Qz (rep 256)) 256 1)=(Q5 (frz (fun _ _=>none) 11) (Qz (rep 256))).map fun cs=> .iS cs 256 false:=rfl;show Q5 (frz (fun _ _=>none) 12) _=_;simp only[Q5,f1,Qhx (fun _ _=>none) 10,Zn2]
    . rw[hk1] at hcall;rw[hcall];simp
   rw[hZ] at hcall';have hF:Qio bv wv 256=[(1,.cells [bv,wv]),(2,.cells [.nS,.nS]),(21,.grow 256)]:=rfl;rw[hF] at hcall' ⊢;simp only[wA,↓Qc,simprocAttr,hcall',ta,wG,wB,hb.sc,wsc,len];have hZl:Z.length=65536:=by rw[<-hZ];exact Qcs _ _
   have hr:∀j,j<256->(r j).length=256:=fun j hj=>(hb.rows j hj).1;refine W.ul ?_;refine W.loopS (kt:=[1,2,27,28,29]) rfl (fun i:Nat=>Q82 (.ptr K.length 1 0) (.ptr K.length 2 0) bv (.int .i64 256) (.int .i64 i))
    (fun i=>K++[[(1,.cells [bv,wv]),(2,.cells [.gS (K.length+1) 33 (Ke (K.length+1) 256) 256 1,.nS]),(21,.grow 256)],[(20,.cells (Bx r Z i)),(33,.grow 256)]]) (fun i=>i<=256) (fun i=>256-i) ?_ 0 (by omega) rfl (by rw[Q16])
   rintro i hi;simp only[Q82];by_cases h:i<256
   . have c1:decide ((i:Int)<256)=true:=Zrh (by omega);have w1:=Qao (i:=i) (by omega);obtain⟨fl,hfi⟩:=hfl i h;have hqi:=fun G=>hq i h G;rw[hfi] at hqi;have at2:=at_r (P:=Tp) (u:=22) (k:= .i64) Zu1 Qau (f:=K.length+1) (s:=33) (len:=256) (i:=(i:Int)) (Q05 (K.length+1)) (by omega) (by omega);have gr:(Ke (K.length+1) 256)[(i:Int).toNat*1]?=some (.mS (K.length+1) 20 (256*i) 256 (some 256) 1):=by
      have e:(i:Int).toNat*1=i:=by omega
      rw[e];exact Q56 _ h
     have hlen:=Qgi (r:=r) hZl hi hr;have cp:=fun(g:Get) (hg:g (K.length+1) 20=some (.cells (Bx r Z i)))=>Q8f (fl:=fl) (hb.rows i h) hg (o:=256*i) (by rw[hlen];omega);have sp:=Qvd hZl h hr;rw[sp] at cp;generalize hD:Bx r Z i=D at cp⊢;generalize hD2:Bx r Z (i+1)=D2 at cp⊢;have cp' :=cp (Qd (K++[[(1,.cells [bv,wv]),(2,.cells [.gS (K.length+1) 33 (Ke (K.length+1) 256) 256 1,.nS]),(21,.grow 256)],[(20,.cells D),(33,.grow 256)]])) (by rw[Qpb];rfl);generalize hR:Ke (K.length+1) 256=R at at2 gr cp' ⊢;simp only[wA,↓Qc,simprocAttr,c1,hp i h,hqi,ta,wG,w1,at2,Zey,gr,Qf5,cp'];subst hD2;exact W.done ⟨i+1,rfl,rfl,by omega,by omega⟩
   have c1:decide ((i:Int)<256)=false:=Zri (by omega);have hi2:i=256:=by omega
   subst hi2;have hDr:∀p:Nat->Nat->Bool,Qi p (Bx r Z 256)=false:=fun p=>Q02 p (fun j hj=>(hb.rows j hj).2) (by rw[<-hZ];exact fun q=>Qnx _ _ _ rfl);generalize hD:Bx r Z 256=D at hDr⊢;have hRr:∀p:Nat->Nat->Bool,p (K.length+1) 20=false->Qi p (Ke (K.length+1) 256)=false:=fun p hp=>Qrk _ _ _ hp;generalize hR:Ke (K.length+1) 256=R at hRr⊢;simp only[wA,↓Qc,simprocAttr,c1];refine W.done ?_;simp only[wA,↓Qc,simprocAttr,ta,wG,wB,hb.sc,wsc,len,lw];refine W.ul ?_;refine W.loop (fun(i:Nat) t H=>∃y:List V,Jg [2,43,44,45] t 0=Quh (.ptr K.length 2 0) wv (.int .i64 n) (.int .i64 i)/\i<=n/\H=K++[Qs8 bv wv (.gS (K.length+1) 33 R 256 1) (Ky K.length a d i) y i,[(20,.cells D),(33,.grow 256)]]/\Qi (fun f s=>f==K.length&&[9].contains s) y=false)
    (fun i=>n-i) ?_ 0 ⟨[],rfl,by omega,rfl,rfl⟩ rfl
   rintro i t H ⟨y,ht,hi,rfl,hy⟩;have hd:(K++[Qs8 bv wv (.gS (K.length+1) 33 R 256 1) (Ky K.length a d i) y i,[(20,.cells D),(33,.grow 256)]]).modify K.length (Ju fun s=>[9].contains s)=K++[Qln bv wv (.gS (K.length+1) 33 R 256 1) (Ky K.length a d i) i,[(20,.cells D),(33,.grow 256)]]:=by have:=Qdi (Ju fun s=>[9].contains s) K [Qs8 bv wv (.gS (K.length+1) 33 R 256 1) (Ky K.length a d i) y i,[(20,.cells D),(33,.grow 256)]] 0;exact this.trans (by rw[<-Zao bv wv _ _ y i];rfl)
   have bvr:bv.refs (fun f s=>f==K.length&&[9].contains s)=false:=Qbq (fun f s h=>by simp at h;simp;omega) bv hb.refs;have wvr:wv.refs (fun f s=>f==K.length&&[9].contains s)=false:=hv.noRefs _;have Rr:=hRr (fun f s=>f==K.length&&[9].contains s) (by simp);have Dr:=hDr (fun f s=>f==K.length&&[9].contains s);have or_:=Q6d K.length a d i;refine⟨_,_,Z7 (kt:=[2,43,44,45]) (ds:=[9]) rfl ?_ ?_,?_⟩
   . rw[ht];simp only[Quh,Qi,V.refs,wvr];simp
   . rw[hd,Zs,Qh1 hw (fun f s h=>by simp at h;omega)];unfold Qln;split<;>simp only[Q2,Zg,O.refs,Qi,V.refs,bvr,wvr,Rr,Dr,or_]<;>simp
   rw[ht,hd];simp only[Quh];by_cases h:i<n
   . have c1:decide ((i:Int)<n)=true:=Zrh (by omega);have w1:=Qao (i:=i) (by omega);obtain⟨e1,fl,e2⟩:=hwait i h;have at1:=hv.at (k:= .i64) Zu5 Qcm (by decide) (i:=(i:Int)) (by omega) (by omega);have ldw:=Qzx h hv.1 e1 e2;obtain⟨m,rfl,hm⟩:=(Q8o (d i) fl (hdata i h)).op (by rfl) rfl;have hm' :∀s H,_:=fun s H=>hm 72 K.length s H rfl;have n9:Qd (K++[Qln bv wv (.gS (K.length+1) 33 R 256 1) (Ky K.length a d i) i,[(20,.cells D),(33,.grow 256)]]) K.length 9=none:=by
      rw[J9];show Xx (Qln bv wv _ _ i) 9=none;unfold Qln;split<;>rfl
     have s9:∀x,hset (K++[Qln bv wv (.gS (K.length+1) 33 R 256 1) (Ky K.length a d i) i,[(20,.cells D),(33,.grow 256)]]) K.length 9 (.cells x)=K++[Qgb bv wv (.gS (K.length+1) 33 R 256 1) (Ky K.length a d i) x i,[(20,.cells D),(33,.grow 256)]]:=fun x=>by rw[X9];show K++[Kq (Qln bv wv _ _ i) 9 _,_]=_;unfold Qln Qgb;split<;>rfl
     have s9' :∀x z,hset (K++[Qgb bv wv (.gS (K.length+1) 33 R 256 1) (Ky K.length a d i) x i,[(20,.cells D),(33,.grow 256)]]) K.length 9 (.cells z)=K++[Qgb bv wv (.gS (K.length+1) 33 R 256 1) (Ky K.length a d i) z i,[(20,.cells D),(33,.grow 256)]]:=fun x z=>by rw[X9];show K++[Kq (Qgb bv wv _ _ x i) 9 _,_]=_;unfold Qgb;split<;>rfl
     have g9:∀x,Qd (K++[Qgb bv wv (.gS (K.length+1) 33 R 256 1) (Ky K.length a d i) x i,[(20,.cells D),(33,.grow 256)]]) K.length 9=some (.cells x):=fun x=>by rw[J9];show Xx (Qgb bv wv _ _ x i) 9=_;unfold Qgb;split<;>rfl
     have g2:∀x,Qd (K++[Qgb bv wv (.gS (K.length+1) 33 R 256 1) (Ky K.length a d i) x i,[(20,.cells D),(33,.grow 256)]]) K.length 2=some (.cells [.gS (K.length+1) 33 R 256 1,Ky K.length a d i]):=fun x=>by rw[J9];show Xx (Qgb bv wv _ _ x i) 2=_;unfold Qgb;split<;>rfl
     have ap:=Q40 K bv wv (.gS (K.length+1) 33 R 256 1) [.int .i64 (a i),.iS (d i) 256 fl] a d [[(20,.cells D),(33,.grow 256)]] i (by omega);have s58:∀x,hset (K++[Qgb bv wv (.gS (K.length+1) 33 R 256 1) (Ky K.length a d i) x i,[(20,.cells D),(33,.grow 256)]]) K.length 58 (.grow (i+1))=K++[twF5 bv wv (.gS (K.length+1) 33 R 256 1) (Ky K.length a d i) x i,[(20,.cells D),(33,.grow 256)]]:=fun x=>by rw[X9];show K++[Kq (Qgb bv wv _ _ x i) 58 _,_]=_;unfold Qgb twF5;split<;>rfl
     have g2' :∀x,Qd (K++[twF5 bv wv (.gS (K.length+1) 33 R 256 1) (Ky K.length a d i) x i,[(20,.cells D),(33,.grow 256)]]) K.length 2=some (.cells [.gS (K.length+1) 33 R 256 1,Ky K.length a d i]):=fun x=>by rw[J9];rfl
     have s2:∀x o,hset (K++[twF5 bv wv (.gS (K.length+1) 33 R 256 1) (Ky K.length a d i) x i,[(20,.cells D),(33,.grow 256)]]) K.length 2 (.cells [.gS (K.length+1) 33 R 256 1,o])=K++[Qs8 bv wv (.gS (K.length+1) 33 R 256 1) o x (i+1),[(20,.cells D),(33,.grow 256)]]:=fun x o=>by rw[X9];rfl
     have mt57:Qg.mt 72 57=false:=rfl;have scw:(Ky K.length a d (i+1)).scalar=true:=by unfold Ky;rw[if_neg (Zq4 i)];rfl
     have scw0:(Ky K.length a d i).scalar=true:=by unfold Ky;split<;>rfl
     have wcl:(Ky K.length a d (i+1)).cells=some [Ky K.length a d (i+1)]:=by unfold Ky;rw[if_neg (Zq4 i)];rfl
     simp only[wA,↓Qc,simprocAttr,c1,at1,ldw,ta,wB,w1,wcl,new,n9,s9,s9',g9,g2,hm',mt57,Qv,ap,s58,g2',s2,scw,scw0,Zu5];refine W.opsK (by kernel_rfl) ?_;simp only[wA,↓Qc,simprocAttr,w1];exact W.done ⟨i+1,⟨_,rfl,by omega,rfl,by simp[Qi,V.refs]⟩,by omega⟩
   . have c1:decide ((i:Int)<n)=false:=Zri (by omega);have hi2:i=n:=by omega
     subst hi2;simp only[wA,↓Qc,simprocAttr,c1];refine W.done ?_;simp only[wA,↓Qc,simprocAttr];refine W.done (End.ret (v:= .agg [.gS (K.length+1) 33 R 256 1,Ky K.length a d i]) ?_ ?_)
     . refine Qif (xs:=[.gS (K.length+1) 33 R 256 1,Ky K.length a d i]) rfl rfl ?_ (by rw[rd25];rfl);rw[J9];show Xx (Qln bv wv _ _ i) 2=_;unfold Qln;split<;>rfl
     . rw[Zj (by simp[V.refs,Qi])];exact⟨rfl,by rw[<-hR,<-hD]⟩
def Q0n(r:Nat->List V)(a:Nat->Int)(d:Nat->List V)(n:Nat):V:=
 .agg [.iS ((List.range 256).map fun j=> .iS (r j) 256 true) 256 false,if n=0 then .nS else .iS (Qa7 a d n) n false]
theorem Q62{r:Nat->List V}{Z:List V}(h:∀j,j<256->(r j).length=256){i:Nat}(hi:i<256):((Bx r Z 256).drop (256*i)).take 256=r i:=by
 have key:∀m,m<=256->i<m->∀T:List V,((((List.range m).map r).flatten++T).drop (256*i)).take 256=r i:=by
  intro m
  induction m with
  |zero=>intro _ h;omega
  |succ m ih=>
   intro hm him T;rw[Zq3,Zqz,Zon,Zo6];by_cases e:i=m
   . subst e;have hf:=Qen (r:=r) (i:=i) (fun j hj=>h j (by omega));rw[List.drop_append,hf,Nat.sub_self,Zqe (by rw[hf];exact Zn6 _)];simp only[Zo4,Zpm,List.flatten_cons,List.flatten_nil,Zou,Zpu,Zpe];exact List.take_left' (h i (by omega))
   . exact ih (by omega) (by omega) _
 exact key 256 (Zn6 _) hi _
theorem Qn6(K:Heap)(rv:List V)(fl:Bool)(r:Nat->List V)(hl:rv.length=256)(hr:∀i,i<256->∃f,rv[i]?=some (.iS (r i) 256 f))(hrow:∀i,i<256->Jv (r i)):Qo9 K (.iS rv 256 fl) r:=by
 have hs:Qw 1 (.iS rv 256 fl) rv 256:=Qw.mk (by rw[hl]);refine⟨fun g=>hs.len Zu1 g,⟨fun i=> .iptr rv i,fun i=>rv.getD i .bad,fun i hi=>?_,fun i hi G=>?_,fun i hi=>?_⟩,hrow,rfl,rfl,rfl⟩
 . have:=hs.at (k:= .i64) Zu1 Qau (by decide) (i:=(i:Int)) (by omega) (by omega);rw[this];have e:(i:Int).toNat*1=i:=by omega
   rw[e]
 . obtain⟨f,hf⟩:=hr i hi;show Q3 Tp 26 rv i=_;rw[rd26,hf];simp[List.getD,hf]
 . obtain⟨f,hf⟩:=hr i hi;exact⟨f,by simp[List.getD,hf]⟩
theorem Qxc{g:Get}{n:Nat}{f h:Nat->V}:∀(l:List Nat),(∀j∈l,frz g n (f j)=some (h j))->Q5 (frz g n) (l.map f)=some (l.map h)
 |[],_=>rfl
 |j::l,e=>by
  simp only[Zo4,Q5,e j (by simp),Qxc l (fun k hk=>e k (by simp[hk]))]
theorem Qps(g:Get)(m:Nat)(a:Nat->Int)(d:Nat->List V):∀n,Q5 (frz g (m+1)) (Qa7 a d n)=some (Qa7 a d n)
 |0=>rfl
 |n+1=>by
  have app:∀(l k l' k' :List V),Q5 (frz g (m+1)) l=some l' ->Q5 (frz g (m+1)) k=some k' ->Q5 (frz g (m+1)) (l++k)=some (l' ++k'):=by
   intro l
   induction l with
   |nil=>intro k l' k' h1 h2;cases h1;exact h2
   |cons x l ih=>
    intro k l' k' h1 h2;simp only[Q5,Zo8] at h1⊢;cases hx:frz g (m+1) x with
    |none=>rw[hx] at h1;cases h1
    |some y=>
     rw[hx] at h1;cases hl:Q5 (frz g (m+1)) l with
     |none=>rw[hl] at h1;cases h1
     |some ys=>rw[hl] at h1;cases h1;rw[ih k ys k' hl h2];rfl
  rw[Qb4];exact app _ _ _ _ (Qps g m a d n) rfl
theorem Qpy(k:Nat)(H:Heap)(r:Nat->List V)(Z:List V)(a:Nat->Int)(d:Nat->List V)(n:Nat)(hrow:∀i,i<256->Jv (r i))(hZ:Z.length=65536)(hg:Qd H (k+1) 20=some (.cells (Bx r Z 256))):
 frz (Qd H) depth (.agg [.gS (k+1) 33 (Ke (k+1) 256) 256 1,Ky k a d n])=some (Q0n r a d n):=by
 have hr:∀j,j<256->(r j).length=256:=fun j hj=>(hrow j hj).1;have hl:=Qgi (r:=r) hZ (Zn6 256) hr;have row:∀j∈List.range 256,frz (Qd H) 10 (.mS (k+1) 20 (256*j) 256 (some 256) 1)=some (.iS (r j) 256 true):=by intro j hj;have hj' :j<256:=Zpz.1 hj;have e:((Bx r Z 256).drop (256*j)).take (256*1)=r j:=Q62 hr hj';have:=Qbt (g:=Qd H) (f:=k+1) (s:=20) (o:=256*j) (len:=256) (esz:=1) (cap:=some 256) (xs:=Bx r Z 256) (m:=8) hg (by rw[hl];omega) (by rw[e];exact Qdk _ _ (hrow j hj').2);rw[e] at this;exact this
 have rows:=Qxc (List.range 256) row;have g1:frz (Qd H) 11 (.gS (k+1) 33 (Ke (k+1) 256) 256 1)=some (.iS ((List.range 256).map fun j=> .iS (r j) 256 true) 256 false):=by have e:frz (Qd H) 11 (.gS (k+1) 33 (Ke (k+1) 256) 256 1)=(Q5 (frz (Qd H) 10) (Ke (k+1) 256)).map fun cs=> .iS cs 256 false:=rfl;rw[e];unfold Ke;rw[rows];rfl
 have g2:frz (Qd H) 11 (Ky k a d n)=some (if n=0 then .nS else .iS (Qa7 a d n) n false):=by
  unfold Ky;by_cases h:n=0
  . simp only[h,if_true];rfl
  . simp only[h,if_false];have e:frz (Qd H) 11 (.gS k 58 (Qa7 a d n) n 2)=(Q5 (frz (Qd H) 10) (Qa7 a d n)).map fun cs=> .iS cs n false:=rfl;rw[e,Qps];rfl
 have e:frz (Qd H) depth (.agg [.gS (k+1) 33 (Ke (k+1) 256) 256 1,Ky k a d n])=(Q5 (frz (Qd H) 11) [.gS (k+1) 33 (Ke (k+1) 256) 256 1,Ky k a d n]).map .agg:=rfl;rw[e];simp only[Q5,g1,g2,Zn2];rfl
theorem Q2z(rv:List V)(fl:Bool)(r:Nat->List V)(hl:rv.length=256)(hr:∀i,i<256->∃f,rv[i]?=some (.iS (r i) 256 f))(hrow:∀i,i<256->Jv (r i))(wv:V)(cs:List V)(n:Nat)(hv:Qw 2 wv cs n)(hn:n<=4096)(a:Nat->Int)(d:Nat->List V)
 (hwait:∀j,j<n->cs[2*j]?=some (.int .i64 (a j))/\∃fl,cs[2*j+1]?=some (.iS (d j) 256 fl))(hdata:∀j,j<n->Jv (d j)):
 Fz Tp Qg 72 [.agg [.iS rv 256 fl,wv]] fun x=>x=Q0n r a d n:=by
 refine Fz.of_cw ((Q3p [] WF.nil _ wv r (Qn6 [] rv fl r hl hr hrow) cs n hv hn a d hwait hdata).mono ?_);rintro rr H' ⟨rfl,rfl⟩;refine⟨_,rfl,_,?_,rfl⟩;exact Qpy 0 _ r (zerosN [.int .u8 0] 65536) a d n hrow (Qcs _ _) rfl
theorem Q86(a:Int)(h0:0<=a)(h1:a<256):Fz Tp Qg 70 [.int .i64 a] fun x=>x= .bool true:=by
 refine Zm Tryz.func70 rfl ?_;have cv:∀g,convertV Tp g 3 44 (.int .i64 a)=some (.val (.int .u64 a) none):=fun g=>by
  have w:(IntKind.u64).wrap a=a:=by simp only[IntKind.wrap,IntKind.bits,IntKind.signed,Zqy,Zn5,if_false];omega
  simp only[convertV,Zu3,Zu13,w]
 have c1:decide (a<256)=true:=Zrh h1;simp only[wA,↓Qc,simprocAttr,Tryz.ntmps70,cv,c1];exact W.done (Q0.ret rfl rfl rfl)
theorem Q8h(rv:List V)(fl:Bool)(r:Nat->List V)(hl:rv.length=256)(hr:∀i,i<256->∃f,rv[i]?=some (.iS (r i) 256 f))(wv:V)(cs:List V)(n:Nat)(hv:Qw 2 wv cs n)(hn:n<=4096)(a:Nat->Int)(d:Nat->List V)
 (hwait:∀j,j<n->cs[2*j]?=some (.int .i64 (a j))/\∃fl,cs[2*j+1]?=some (.iS (d j) 256 fl))(ha:∀j,j<n->0<=a j/\a j<256):
 CW Tp Qg 74 [.agg [.iS rv 256 fl,wv]] [] fun x _=>x= .ret (.int .i64 0):=by
 refine Zu Tryz.func74 rfl ?_;have hs:Qw 1 (.iS rv 256 fl) rv 256:=Qw.mk (by rw[hl]);have lw:=hv.len Zu5;have wsc:wv.scalar=true:=Qle hv;have c4:decide ((n:Int)<=4096)=true:=Zrh (by omega);have e256:(((256:Nat):Int)==256)=true:=rfl;have ldr:∀i:Nat,i<256->∃f,∀g,ldV Tp 26 g (.iptr rv ((i:Int).toNat*1))=some (.iS (r i) 256 f):=fun i hi=>by
  obtain⟨f,hf⟩:=hr i hi;refine⟨f,fun g=>?_⟩;have e:(i:Int).toNat*1=i:=by omega
  rw[e];show Q3 Tp 26 rv i=_;rw[rd26,hf]
 simp only[wX,↓Qc,simprocAttr,Tryz.ntmps74,wsc,lw,c4,e256];refine W.ul ?_;refine W.loopS (kt:=[1,3,19,20,21]) rfl (fun i:Nat=>Ql7 (.ptr 0 1 0) (.bool true) (.iS rv 256 fl) (.int .i64 ((256:Nat):Int)) (.int .i64 i)) (fun i=>[[(1,.cells [.iS rv 256 fl,wv])]]) (fun i=>i<=256) (fun i=>256-i) ?_ 0 (by omega) rfl rfl;rintro i hi;simp only[Ql7];by_cases h:i<256
 . have c1:decide ((i:Int)<((256:Nat):Int))=true:=Zrh (by omega);have w1:=Qao (i:=i) (by omega);obtain⟨f,hf⟩:=ldr i h;have at1:=hs.at (k:= .i64) Zu1 Qau (by decide) (i:=(i:Int)) (by omega) (by omega);simp only[Qmi,Qey,Qfg,Zv,Zk,Kf,nov,gd,rho,Q1,wr,Nat.reduceAdd,Nat.reduceSub,if_true,if_false,reduceIte,reduceCtorEq,Nat.reduceLT,Nat.reduceEqDiff,Nat.reduceMul,Nat.reduceLeDiff,Qgv,Int.reduceBEq,Int.reduceBNe,Int.reduceLT,Int.reduceLE,↓Qc,c1,at1,hf,ta,w1,e256];exact W.done ⟨i+1,rfl,rfl,by omega,by omega⟩
 . have c1:decide ((i:Int)<((256:Nat):Int))=false:=Zri (by omega);have hi2:i=256:=by omega
   subst hi2;simp only[wA,↓Qc,simprocAttr,c1];refine W.done ?_;simp only[wX,↓Qc,simprocAttr,wsc,lw];refine W.ul ?_;refine W.loop (fun(i:Nat) t H=>∃F:AM.Frame,Jg [3,33,34,35] t 0=Qgq (.bool true) wv (.int .i64 n) (.int .i64 i)/\i<=n/\H=[F]/\(F=[(1,.cells [.iS rv 256 fl,wv])]\/∃x,F=[(1,.cells [.iS rv 256 fl,wv]),(7,.cells x)])) (fun i=>n-i) ?_ 0 ⟨_,rfl,by omega,rfl,.inl rfl⟩ rfl;rintro i t H ⟨F,ht,hi,rfl,hF⟩;have hd:([F]:Heap).modify 0 (Ju fun s=>[7].contains s)=[[(1,.cells [.iS rv 256 fl,wv])]]:=by rcases hF with rfl|⟨x,rfl⟩<;>rfl
   have wvr:wv.refs (fun f s=>f==0&&[7].contains s)=false:=hv.noRefs _;refine⟨_,_,Z7 (kt:=[3,33,34,35]) (ds:=[7]) rfl ?_ ?_,?_⟩
   . rw[ht];simp only[Qgq,Qi,V.refs,wvr];simp
   . rw[hd];simp only[Q2,Zg,O.refs,Qi,V.refs,wvr];simp
   rw[ht,hd];simp only[Qgq];by_cases h:i<n
   . have c1:decide ((i:Int)<n)=true:=Zrh (by omega);have w1:=Qao (i:=i) (by omega);obtain⟨e1,fl2,e2⟩:=hwait i h;have at1:=hv.at (k:= .i64) Zu5 Qcm (by decide) (i:=(i:Int)) (by omega) (by omega);have ldw:=Qzx h hv.1 e1 e2;obtain⟨m,rfl,hm⟩:=(Q86 (a i) (ha i h).1 (ha i h).2).op (by rfl) rfl;have hm' :∀s H,_:=fun s H=>hm 74 0 s H rfl;simp only[wX,↓Qc,simprocAttr,c1,at1,ldw,w1,hm',e256];exact W.done ⟨i+1,⟨_,rfl,by omega,rfl,.inr ⟨_,rfl⟩⟩,by omega⟩
   . have c1:decide ((i:Int)<n)=false:=Zri (by omega);simp only[wA,↓Qc,simprocAttr,c1];refine W.done ?_;simp only[wA,↓Qc,simprocAttr];exact W.done (End.ret (v:= .int .i64 0) rfl rfl)
theorem Zcv:Yh Tp Qg 60 (some 171) [.int .u64 1,.int .u64 256] []=some (.ret (.tuple [.int .u64 0,.int .u64 256]),[]):=by kernel_rfl
theorem mul_fz:Fz Tp Qg 171 [.int .u64 1,.int .u64 256] fun x=>x= .tuple [.int .u64 0,.int .u64 256]:=
 ⟨_,_,_,Y6.2 ⟨60,Zcv⟩,K3 (Qa rfl (Qa rfl rfl)),rfl⟩
theorem Zdq(n m:Nat)(x:Int):List.replicate n x++List.replicate m x=List.replicate (n+m) x:=by
 induction n with
 |zero=>simp
 |succ n ih=>rw[List.replicate_succ,Zo8,ih,Nat.succ_add,List.replicate_succ]
def Bc(n:Nat):List Int:=List.replicate n 256++List.replicate (256-n) 0
theorem Qar{n:Nat}(h:n<=256):(Bc n).length=256:=by simp[Bc];omega
theorem Q64{n m:Nat}(h:m<=n):(Qz (Bc n)).take m=Qz (List.replicate m 256):=by
 have:(List.replicate n (256:Int)++List.replicate (256-n) 0).take m=List.replicate m 256:=by rw[List.take_append_of_le_length (by simp;exact h),List.take_replicate];congr 1;omega
 rw[Qz,<-List.map_take,Bc,this];rfl
theorem Qn2{n m:Nat}(h:n+m<=256):splice (Qz (Bc n)) n (Qz (List.replicate m 256))=Qz (Bc (n+m)):=by
 have e:splice (Bc n) n (List.replicate m 256)=Bc (n+m):=by unfold splice Bc;rw[List.take_left' (by simp),Zq5,List.drop_append,Zqe (by simp),Zq5,Zpu,List.drop_replicate,Zdq];congr 2;omega
 rw[<-e];simp[splice,Qz]
theorem Zc2{P:Program}{u e:TypeId}(hu:P.underlying u=some (.slice e)){q:Nat}(hs:sz P e=some q){g:Get}{f s o len c n:Nat}{k:IntKind}(h:n<=c)(h2:0<c)(h3:len<=c):
 Zn P g u (.mS f s o len (some c) q) none (some (.int k n)) none=some (.mS f s o n (some c) q):=by
 simp only[Zn,Jt,hu,hs,if_true,Qjg,Xh,Zo0,Zpb];rw[if_pos ⟨by omega,by omega,by omega,by omega,by omega,by omega,by simp⟩];simp
theorem Q4i:Fz Tp Qg 117 [.iS [.int .i64 256] 1 true,.int .i64 256] fun x=>x= .iS (Qz (Bc 256)) 256 true:=by
 refine Zm Tryz.func117 rfl ?_;obtain⟨m,rfl,hm⟩:=mul_fz.op (by rfl) rfl;have hm' :∀s H,_:=fun s H=>hm 117 0 s H rfl;have cv:∀g,convertV Tp g 3 44 (.int .i64 ((1:Nat):Int))=some (.val (.int .u64 1) none):=fun g=>by simp only[convertV,Zu3,Zu13];rfl
 have cv2:∀g,convertV Tp g 3 44 (.int .i64 256)=some (.val (.int .u64 256) none):=fun g=>by simp only[convertV,Zu3,Zu13];rfl
 have cv3:∀g,convertV Tp g 44 3 (.int .u64 256)=some (.val (.int .i64 256) none):=fun g=>by simp only[convertV,Zu3,Zu13];rfl
 have rm:J4 256 8=true:=by decide
 have hZ:zerosN [V.int .i64 0] 256=Qz (Bc 0):=by kernel_rfl
 have hZ' :zerosN [V.int .i64 0] (256:Int).toNat=Qz (Bc 0):=hZ;have c0:decide ((0:Int)>0)=false:=rfl;have c1:decide ((256:Int)>9223372036854775807)=false:=rfl;have cp0:Qa9 Tp (Qd [[(30,.cells (Qz (Bc 0)))]]) 32 (.mS 0 30 0 256 (some 256) 1) (.iS [.int .i64 256] 1 true)=some (.val (.int .i64 1) (some (0,30,.cells (Qz (Bc 1))))):=by have sc:Bh (Qd [[(30,.cells (Qz (Bc 0)))]]) 1 (.iS [.int .i64 256] 1 true)=some (Qz (List.replicate 1 256),1):=rfl;have hg:Qd [[(30,O.cells (Qz (Bc 0)))]] 0 30=some (.cells (Qz (Bc 0))):=rfl;simp only[Qa9,Zu4,sz3,sc,Qa6,hg,if_true];have sp:=Qn2 (n:=0) (m:=1) (by omega);have tk:(Qz (List.replicate 1 256)).take (min 1 256*1)=Qz (List.replicate 1 256):=rfl;rw[tk,sp,if_pos ⟨by rw[Bb,Qar (by omega)];decide,rfl⟩];rfl
 simp only[Qmi,Qey,Qfg,Zv,Zk,Kf,nov,gd,rho,Q1,wr,Nat.reduceAdd,Nat.reduceSub,if_true,if_false,reduceIte,reduceCtorEq,Nat.reduceLT,Nat.reduceEqDiff,Nat.reduceMul,Nat.reduceLeDiff,Qgv,Int.reduceBEq,Int.reduceBNe,Int.reduceLT,Int.reduceLE,↓Qc,Tryz.ntmps117,ta,wH,cv,cv2,cv3,hm',c0,c1,Zu4,by64,Int.reduceToNat,rm,and_self,hZ,hZ',Qf5,cp0,Int.reduceGT];refine W.ul ?_;refine W.loopS (kt:=[7,8]) rfl (fun n:Nat=>Q3n (.mS 0 30 0 256 (some 256) 1) (.int .i64 n)) (fun n=>[[(30,.cells (Qz (Bc n)))]]) (fun n=>1<=n/\n<=256) (fun n=>256-n) ?_ 1 (by omega) rfl rfl;rintro n ⟨h1,h2⟩;simp only[Q3n];have len:=fun g=>Qk5 (P:=Tp) Zu4 (f:=0) (s:=30) (o:=0) (len:=256) (esz:=1) (cap:=some 256) g;by_cases h:n<256
 . have c2:decide ((n:Int)<((256:Nat):Int))=true:=Zrh (by omega);have sl1:∀g,Zn Tp g 32 (.mS 0 30 0 256 (some 256) 1) (some (.int .i64 n)) none none=some (.mS 0 30 n (256-n) (some (256-n)) 1):=fun g=>by
    have:=Qy2 (P:=Tp) (u:=32) Zu4 sz3 (f:=0) (s:=30) (o:=0) (len:=256) (c:=256) (w:=n) (k:= .i64) (by omega) (by omega) g;rw[this,if_neg (by omega)];simp
   have sl2:∀g,Zn Tp g 32 (.mS 0 30 0 256 (some 256) 1) none (some (.int .i64 n)) none=some (.mS 0 30 0 n (some 256) 1):=fun g=>Zc2 Zu4 sz3 (by omega) (by omega) (by omega);have cp:Qa9 Tp (Qd [[(30,.cells (Qz (Bc n)))]]) 32 (.mS 0 30 n (256-n) (some (256-n)) 1) (.mS 0 30 0 n (some 256) 1)=some (.val (.int .i64 (min n (256-n):Nat)) (some (0,30,.cells (Qz (Bc (n+min n (256-n))))))):=by
    have hg:Qd [[(30,O.cells (Qz (Bc n)))]] 0 30=some (.cells (Qz (Bc n))):=rfl;have hl:(Qz (Bc n)).length=256:=by rw[Bb,Qar h2]
    have sc:Bh (Qd [[(30,.cells (Qz (Bc n)))]]) 1 (.mS 0 30 0 n (some 256) 1)=some (Qz (List.replicate n 256),n):=by simp only[Bh,Qk,hg,Zpe,Zof,Q64 (Zn6 n)];rw[if_pos ⟨trivial,by rw[hl];omega⟩]
    have tk:(Qz (List.replicate n 256)).take (min n (256-n)*1)=Qz (List.replicate (min n (256-n)) 256):=by
     rw[Zof,Qz,<-List.map_take,List.take_replicate];have:min (min n (256-n)) n=min n (256-n):=by omega
     rw[this];rfl
    simp only[Qa9,Zu4,sz3,sc,Qa6,hg,if_true,tk];rw[Qn2 (by omega),if_pos ⟨by rw[hl];omega,Qsi _⟩]
   have w1:(IntKind.i64).wrap ((n:Int)+((min n (256-n):Nat):Int))=((n+min n (256-n):Nat):Int):=by rw[wrap_i64]<;>omega
   simp only[Qmi,Qey,Qfg,Zv,Zk,Kf,nov,gd,rho,Q1,wr,Nat.reduceAdd,Nat.reduceSub,if_true,if_false,reduceIte,reduceCtorEq,Nat.reduceLT,Nat.reduceEqDiff,Nat.reduceMul,Nat.reduceLeDiff,Qgv,Int.reduceBEq,Int.reduceBNe,Int.reduceLT,Int.reduceLE,↓Qc,len,c2,sl1,sl2,Qf5,cp,wH];refine W.opsK (by kernel_rfl) ?_;simp only[wA,↓Qc,simprocAttr,w1];exact W.done ⟨n+min n (256-n),rfl,rfl,by omega,by omega⟩
 . have c2:decide ((n:Int)<((256:Nat):Int))=false:=Zri (by omega);have hn:n=256:=by omega
   subst hn;simp only[wA,↓Qc,simprocAttr,len,c2];refine W.done ?_;simp only[wA,↓Qc,simprocAttr];refine W.done (Q0.normal (v:= .mS 0 30 0 256 (some 256) 1) rfl ?_ rfl);have e:((Qz (Bc 256)).drop 0).take (256*1)=Qz (Bc 256):=by rw[Zpe,Zpf];rw[Bb,Qar (Zn6 _)];exact Zn6 _
   have:=Qbt (g:=Qd [[(30,O.cells (Qz (Bc 256)))]]) (f:=0) (s:=30) (o:=0) (len:=256) (esz:=1) (cap:=some 256) (m:=10) rfl (by rw[Bb,Qar (Zn6 _)];exact Zn6 _) (by rw[e];exact Qhx _ _ _);rw[e] at this;exact this
theorem Q0g(x:V)(n:Nat):zerosN [x] n=List.replicate n x:=by
 induction n with
 |zero=>rfl
 |succ n ih=>show[x]++zerosN [x] n=_;rw[ih,List.replicate_succ];rfl
theorem Qyg(x:V):Bx (fun _=>List.replicate 256 x) (zerosN [x] 65536) 256=zerosN [x] 65536:=by
 rw[Q0g];refine List.eq_replicate_iff.2 ⟨?_,?_⟩
 . exact Qgi (by rw[Zq5]) (Zn6 _) (fun j _=>by rw[Zq5])
 . intro b hb;unfold Bx at hb;rcases Zog.1 hb with h|h
   . obtain⟨l,hl,hbl⟩:=List.mem_flatten.1 h;obtain⟨j,_,rfl⟩:=Zpc.1 hl;exact(List.mem_replicate.1 hbl).2
   . exact(List.mem_replicate.1 (List.mem_of_mem_drop h)).2
def newV:V:= .agg [.iS (List.replicate 256 (.iS (List.replicate 256 (.int .u8 0)) 256 true)) 256 false,.nS]
theorem Q2d:Q0n (fun _=>List.replicate 256 (.int .u8 0)) (fun _=>0) (fun _=>[]) 0=newV:=by
 have e:((List.range 256).map fun j=>V.iS ((fun _=>List.replicate 256 (V.int .u8 0)) j) 256 true)=List.replicate 256 (.iS (List.replicate 256 (.int .u8 0)) 256 true):=by rw[List.map_const',List.length_range]
 show V.agg [.iS ((List.range 256).map fun j=>V.iS ((fun _=>List.replicate 256 (V.int .u8 0)) j) 256 true) 256 false,if 0=0 then .nS else _]=_;rw[e,if_pos rfl];rfl
theorem new_fz:Fz Tp Qg 76 [] fun x=>x=newV:=by
 refine Zm Tryz.func76 rfl ?_;obtain⟨m,rfl,hm⟩:=Q4i.op (by rfl) rfl;have hm' :∀s H,_:=fun s H=>hm 76 0 s H rfl;have hr:∀i,i<256->(Bc 256)[i]?=some 256:=fun i hi=>by
  have:Bc 256=List.replicate 256 256:=by simp only[Bc,Nat.sub_self,List.replicate_zero,Zou]
  rw[this,List.getElem?_replicate,if_pos hi]
 have hv:Xg (.iS (Qz (Bc 256)) 256 true) (Bc 256):=by have:=Xg.mk (Bc 256) true;rwa[Qar (Zn6 _)] at this
 have hwF:WF [[(0,O.cells [.nS,.nS])]]:=rfl;obtain⟨rr,KK,hcall,rfl,rfl⟩:=Q7j [[(0,.cells [.nS,.nS])]] hwF (.iS (Qz (Bc 256)) 256 true) (Bc 256) (Qar (Zn6 _)) hr hv;have hcall' :callOp Qg (Qn Tp Qg) 76 0 (some 3) 116 [.iS (Qz (Bc 256)) 256 true] [[(0,.cells [.nS,.nS])]]=some (.ret (.gS 1 33 (Ke 1 256) 256 1),[[(0,.cells [.nS,.nS])],[(20,.cells (zerosN [.int .u8 0] 65536)),(33,.grow 256)]]):=
  Qnn rfl rfl rfl rfl hcall
 generalize hZ:zerosN [V.int .u8 0] 65536=Z at hcall';generalize hR:Ke 1 256=R at hcall';generalize hQ:Qz (Bc 256)=Q at hm' hcall';have mt1:Qg.mt 76 1=false:=rfl;simp only[wX,↓Qc,simprocAttr,Tryz.ntmps76,mt1,hm',hcall',Zu4,sz3,zc3];refine W.done (Q0.ret (v:= .agg [.gS 1 33 R 256 1,.nS]) ?_ ?_ rfl)
 . exact Qif (f:=0) (s:=0) (o:=0) (xs:=[.gS 1 33 R 256 1,.nS]) rfl rfl rfl (by rw[rd25];rfl)
 rw[<-Q2d,<-hR];refine Qpy 0 _ (fun _=>List.replicate 256 (.int .u8 0)) (zerosN [.int .u8 0] 65536) (fun _=>0) (fun _=>[]) 0 (fun i _=>⟨by rw[Zq5],by
  rw[Zor];intro x hx;rw[(List.mem_replicate.1 hx).2];rfl⟩) (Qcs _ _) ?_
 rw[Qyg,hZ];rfl
def ent(x:Int×V):V×V:=(.int .i64 x.1,.agg [.int .i64 x.1,x.2])
def Qbi:List (Int×V)->Int->V->List (Int×V)
 |[],k,v=>[(k,v)]
 |(k',v')::r,k,v=>if k=k' then(k,v)::r else(k',v')::Qbi r k v
theorem Q76(k:Int)(v:V):∀(L:List (Int×V)) (i0:Nat),
 (∃j x,findKey (.int .i64 k) (L.map ent) i0=some (some (i0+j,x))/\(L.map ent).set j (ent (k,v))=(Qbi L k v).map ent/\(Qbi L k v).length=L.length)\/
 (findKey (.int .i64 k) (L.map ent) i0=some none/\L.map ent++[ent (k,v)]=(Qbi L k v).map ent/\(Qbi L k v).length=L.length+1)
 |[],i0=> .inr ⟨rfl,rfl,rfl⟩
 |(k',v')::r,i0=>by
  have e:findKey (.int .i64 k) (((k',v')::r).map ent) i0=(match(if(k==k') then some true else some false:Option Bool) with
   |some true=>some (some (i0,(ent (k',v')).2))
   |some false=>findKey (.int .i64 k) (r.map ent) (i0+1)
   |none=>none):=by
   show(match(if IntKind.i64=IntKind.i64 then some (k==k') else none:Option Bool) with
   |some true=>some (some (i0,(ent (k',v')).2))
   |some false=>findKey (.int .i64 k) (r.map ent) (i0+1)
   |none=>none)=_
   rw[if_pos rfl];cases(k==k')<;>rfl
  rw[e];by_cases h:k=k'
  . subst h;refine .inl ⟨0,_,by simp;rfl,?_,?_⟩
    . simp[Qbi]
    . simp[Qbi]
  . have hb:(k==k')=false:=by simp[h]
    rw[hb];simp only[Zn5,if_false,Qbi,h];rcases Q76 k v r (i0+1) with⟨j,x,h1,h2,h3⟩|⟨h1,h2,h3⟩
    . refine .inl ⟨j+1,x,by rw[h1];congr 3;omega,?_,?_⟩
      . simp only[Zo4,List.set_cons_succ,h2]
      . simp only[Zp9,h3]
    . exact .inr ⟨h1,by simp only[Zo4,Zo8,h2],by simp only[Zp9,h3]⟩
def Qji(L:List (Int×V)):O:= .map (L.map ent) (List.range L.length) L.length
theorem upd_L{g:Get}{f s:Nat}{L:List (Int×V)}(k:Int)(v:V)(hg:g f s=some (Qji L)):
 updateV Tp g 129 (.map f s) (.int .i64 k) (.agg [.int .i64 k,v])=some (.val .bad (some (f,s,Qji (Qbi L k v)))):=by
 have hk:Kh (.int .i64) (.int .i64 k)=true:=rfl;unfold Qji at hg;simp only[updateV,Tryz.underlying129,Zu3,hk,if_true,hg];rcases Q76 k v L 0 with⟨j,x,h1,h2,h3⟩|⟨h1,h2,h3⟩
 . simp only[h1,Zod];unfold Qji;rw[h3,<-h2];rfl
 . simp only[h1];unfold Qji;rw[h3,<-h2,Zq3];rfl
def Xk(a:Nat->Int)(dv:Nat->V):Nat->List (Int×V)
 |0=>[]
 |i+1=>Qbi (Xk a dv i) (a i) (dv i)
theorem all_fz(i:Int):Fz Tp Qg 34 [.int .i64 i] fun x=>x= .bool true:=by refine Zm Tryz.func34 rfl ?_;simp only[wA,↓Qc,simprocAttr,Tryz.ntmps34];exact W.done (Q0.ret rfl rfl rfl)
def laF(bv wv:V)(L:List (Int×V)):AM.Frame:=[(2,.cells [bv,wv]),(8,Qji L)]
def laF' (bv wv:V)(y:List V)(L:List (Int×V)):AM.Frame:=[(2,.cells [bv,wv]),(7,.cells y),(8,Qji L)]
theorem Q63{cs:List V}{n i:Nat}{a:Int}{x:V}(h:i<n)(hl:cs.length=n*2)(e1:cs[2*i]?=some (.int .i64 a))(e2:cs[2*i+1]?=some x):
 Q3 Tp 101 cs ((i:Int).toNat*2)=some (.agg [.int .i64 a,x]):=by
 have e:(i:Int).toNat*2=2*i:=by omega
 rw[e,Q32,if_pos (by omega)];obtain⟨l1,g1⟩:=Zoq.1 e1;obtain⟨l2,g2⟩:=Zoq.1 e2;rw[Zqt l1,Zqb,Zqt l2,Zqb,List.take_zero,g1,g2]
theorem Qg3:∀(L:List (Int×V)) (k:Int) (v:V) (x:Int×V),x∈Qbi L k v->x=(k,v)\/x∈L
 |[],k,v,x,h=> .inl (by simpa [Qbi] using h)
 |(k',v')::r,k,v,x,h=>by
  simp only[Qbi] at h;split at h
  . rcases Zph.1 h with rfl|h
    . exact .inl rfl
    . exact .inr (Zpk _ h)
  . rcases Zph.1 h with rfl|h
    . exact .inr (Zpj)
    . rcases Qg3 r k v x h with e|e
      . exact .inl e
      . exact .inr (Zpk _ e)
theorem Qmk(a:Nat->Int)(dv:Nat->V):∀(i:Nat) (x:Int×V),x∈Xk a dv i->∃j,j<i/\x.2=dv j
 |0,x,h=>by cases h
 |i+1,x,h=>by
  rcases Qg3 _ _ _ _ h with rfl|h
  . exact⟨i,by omega,rfl⟩
  . obtain⟨j,hj,e⟩:=Qmk a dv i x h;exact⟨j,by omega,e⟩
theorem Qt9(p:Nat->Nat->Bool)(L:List (Int×V))(h:∀x∈L,x.2.refs p=false):(Qji L).refs p=false:=by
 show Qhk p (L.map ent)=false
 induction L with
 |nil=>rfl
 |cons x L ih=>
  have h1:=h x (by simp);have h2:=ih (fun y hy=>h y (by simp[hy]));simp only[Zo4,Qhk,ent,V.refs,Qi,h1,h2];rfl
theorem orc{p:Nat->Nat->Bool}{xs:List V}:(O.cells xs).refs p=Qi p xs:=rfl
theorem Q89(K:Heap)(hw:WF K)(bv wv:V)(hbs:bv.scalar=true)(hbr:bv.refs (fun f _=>Nat.ble K.length f)=false)(cs:List V)(n:Nat)(hv:Qw 2 wv cs n)(hn:n<=4096)(a:Nat->Int)(dv:Nat->V)
 (hwait:∀j,j<n->cs[2*j]?=some (.int .i64 (a j))/\cs[2*j+1]?=some (dv j))(hdv:∀j,j<n->∃c fl,dv j= .iS c 256 fl)(sv:V)(hso:sv= .func (.func 34) [] []\/n=0)(hsr:∀p,sv.refs p=false):
 CW Tp Qg 75 [.agg [bv,wv],sv] K fun r K' =>r= .ret (.map K.length 8)/\K' =K++[laF bv wv (Xk a dv n)]:=by
 refine Zu Tryz.func75 rfl ?_;have lw:=hv.len Zu5;have wsc:wv.scalar=true:=Qle hv;simp only[wA,↓Qc,simprocAttr,Tryz.ntmps75,ta,wG,wB,hbs,wsc,lw,Tryz.underlying129];refine W.ul ?_;refine W.loop (fun(i:Nat) t H=>∃F:AM.Frame,Jg [1,5,10,11,12] t 0=Q1f sv (.map K.length 8) wv (.int .i64 n) (.int .i64 i)/\i<=n/\H=K++[F]/\(F=laF bv wv (Xk a dv i)\/∃y,F=laF' bv wv y (Xk a dv i)))
  (fun i=>n-i) ?_ 0 ⟨_,rfl,by omega,rfl,.inl rfl⟩ rfl
 rintro i t H ⟨F,ht,hi,rfl,hF⟩;have hd:(K++[F]).modify K.length (Ju fun s=>[7].contains s)=K++[laF bv wv (Xk a dv i)]:=by have:=Qdi (Ju fun s=>[7].contains s) K [F] 0;refine this.trans ?_;rcases hF with rfl|⟨y,rfl⟩<;>rfl
 have bvr:bv.refs (fun f s=>f==K.length&&[7].contains s)=false:=Qbq (fun f s h=>by simp at h;simp;omega) bv hbr;have wvr:wv.refs (fun f s=>f==K.length&&[7].contains s)=false:=hv.noRefs _;have mr:∀p:Nat->Nat->Bool,(Qji (Xk a dv i)).refs p=false:=fun p=>Qt9 p _ (fun x hx=>by
  obtain⟨j,hj,e⟩:=Qmk a dv i x hx;obtain⟨c,fl,e2⟩:=hdv j (by omega)
  rw[e,e2];rfl)
 refine⟨_,_,Z7 (kt:=[1,5,10,11,12]) (ds:=[7]) rfl ?_ ?_,?_⟩
 . rw[ht];simp only[Q1f,Qi,V.refs,wvr,hsr];simp
 . rw[hd,Zs,Qh1 hw (fun f s h=>by simp at h;omega)];simp only[laF,Q2,Zg,orc,Qi,bvr,wvr,mr];rfl
 rw[ht,hd];simp only[Q1f];by_cases h:i<n
 . have c1:decide ((i:Int)<n)=true:=Zrh (by omega);have w1:=Qao (i:=i) (by omega);have hsv:=hso.resolve_right (by omega);subst hsv;obtain⟨e1,e2⟩:=hwait i h;have at1:=hv.at (k:= .i64) Zu5 Qcm (by decide) (i:=(i:Int)) (by omega) (by omega);have ldw:=Q63 h hv.1 e1 e2;obtain⟨m,rfl,hm⟩:=(all_fz (i:Int)).op (by rfl) rfl;have hm' :∀s H,_:=fun s H=>hm 75 K.length s H rfl;have dsc:(dv i).scalar=true:=by obtain⟨c,fl,e⟩:=hdv i h;rw[e];rfl
   have up:=upd_L (g:=Qd (K++[[(2,.cells [bv,wv]),(7,.cells [.int .i64 (a i),dv i]),(8,Qji (Xk a dv i))]])) (f:=K.length) (s:=8) (L:=Xk a dv i) (a i) (dv i) (by rw[J9];rfl);have eL:Qbi (Xk a dv i) (a i) (dv i)=Xk a dv (i+1):=rfl;rw[eL] at up;simp only[laF];generalize hO:Qji (Xk a dv i)=O1 at up⊢;generalize hO2:Qji (Xk a dv (i+1))=O2 at up;simp only[wA,↓Qc,simprocAttr,c1,at1,ldw,ta,wG,wB,w1,hm',dsc,up];exact W.done ⟨i+1,⟨_,rfl,by omega,rfl,.inr ⟨_,by rw[<-hO2];rfl⟩⟩,by omega⟩
 . have c1:decide ((i:Int)<n)=false:=Zri (by omega);have hi2:i=n:=by omega
   subst hi2;simp only[wA,↓Qc,simprocAttr,c1];refine W.done ?_;simp only[wA,↓Qc,simprocAttr];refine W.done (End.ret (v:= .map K.length 8) rfl ?_);rw[Zj (by simp[V.refs])];exact⟨rfl,rfl⟩
theorem Q0o(rv:List V)(fl:Bool)(hl:rv.length=256)(hsc:rv.all V.scalar=true):
 Qn Tp Qg (some 61) [.iS rv 256 fl] []=some (.ret (.mS 0 7 0 256 none 1),[[(5,.cells []),(7,.cells rv)]]):=by
 have key:CW Tp Qg 61 [.iS rv 256 fl] [] fun r K' =>r= .ret (.mS 0 7 0 256 none 1)/\K' =[[(5,.cells []),(7,.cells rv)]]:=by
  refine Zu Tryz.func61 rfl ?_;have nn:=Jj (P:=Tp) (t:=22) Zu1 (x:= .tmp 3) (y:= .const (.slice none 0 0)) (cs:=rv) (n:=256) (f:=fl);have mt5:Qg.mt 61 5=true:=rfl;have mt7:Qg.mt 61 7=true:=rfl;have sc:∀g,Qk g 1 (.iS rv 256 fl)=some (rv,256):=fun g=>by simp[Qk,hl]
  have ap:Qr Tp (Qg.mt 61) 0 (Qd [[(5,O.cells [])]]) (some 7) 22 22 (.mS 0 5 0 0 (some 0) 1) (.iS rv 256 fl)=some (.val (.mS 0 7 0 256 none 1) (some (0,7,.cells rv))):=by have g5:Qd [[(5,O.cells [])]] 0 5=some (.cells []):=rfl;have n7:Qd [[(5,O.cells [])]] 0 7=none:=rfl;simp only[Qr,Zu1,Qau,by27,Qmr,Ji,sc,appendTo,g5];simp[grown,mt7,new,n7,hsc,J4]
  simp only[wS,simprocAttr,Tryz.ntmps61,nn,mt5,Qv,ap,Zu1,Qau,Qmr,wH,wB];refine W.done (End.ret (v:= .mS 0 7 0 256 none 1) rfl ?_);have:=Zj (b:=0) (H:=[[(5,O.cells []),(7,.cells rv)]]) (v:= .mS 0 7 0 256 none 1) (by simp[V.refs]);exact⟨rfl,this⟩
 obtain⟨r,K',h,rfl,rfl⟩:=key;exact h
theorem Q43(rv:List V)(fl:Bool)(hl:rv.length=256)(hsc:rv.all V.scalar=true)(hp:Qu rv=true)(fn fr d:Nat)(H:Heap)(hn:Qd H fr d=none):
 callOp Qg (Qn Tp Qg) fn fr (some d) 61 [.iS rv 256 fl] H=some (.ret (.mS fr d 0 256 none 1),hset H fr d (.cells rv)):=by
 have hc:=Q0o rv fl hl hsc;have a1:Qg.prim 61=none:=rfl;have a2:Qg.pure fn 61=false:=rfl;have a3:Qg.lift fn 61=true:=rfl;have fz:Q5 (frz (fun _ _=>none) depth) [.iS rv 256 fl]=some [.iS rv 256 fl]:=rfl;have hg:Qd [[(5,O.cells []),(7,.cells rv)]] 0 7=some (.cells rv):=rfl;simp only[callOp,a1,a2,a3,Zn5,if_false,if_true,fz,hc,Qb5,hn,hg,hp,Zn2,wr]
def lfF(wv:V)(c:List V)(N:Nat)(seen:List Nat):AM.Frame:=[(2,.cells [.mS 0 9 0 256 none 1,wv]),(4,.cells [.nS,.nS]),(9,.cells c),(16,.iter (some (1,8)) N seen N)]
def lfF' (wv:V)(c:List V)(N:Nat)(seen:List Nat)(y:List V):AM.Frame:=[(2,.cells [.mS 0 9 0 256 none 1,wv]),(4,.cells [.nS,.nS]),(6,.cells y),(9,.cells c),(16,.iter (some (1,8)) N seen N)]
theorem Qj4(a:Nat->Int)(dv:Nat->V):∀(i:Nat) (x:Int×V),x∈Xk a dv i->∃j,j<i/\x=(a j,dv j)
 |0,x,h=>by cases h
 |i+1,x,h=>by
  rcases Qg3 _ _ _ _ h with rfl|h
  . exact⟨i,by omega,rfl⟩
  . obtain⟨j,hj,e⟩:=Qj4 a dv i x h;exact⟨j,by omega,e⟩
theorem Qtk:∀(L:List (Int×V)) (k:Int) (v:V) (x:Int),x∈(Qbi L k v).map Prod.fst->x=k\/x∈L.map Prod.fst
 |[],k,v,x,h=> .inl (by simpa [Qbi] using h)
 |(k',v')::r,k,v,x,h=>by
  simp only[Qbi] at h;split at h
  . rename_i e;subst e;exact .inr h
  . simp only[Zo4,Zph] at h⊢;rcases h with h|h
    . exact .inr (.inl h)
    . rcases Qtk r k v x h with h|h
      . exact .inl h
      . exact .inr (.inr h)
theorem Qjx:∀(L:List (Int×V)) (k:Int) (v:V),(L.map Prod.fst).Nodup->((Qbi L k v).map Prod.fst).Nodup
 |[],k,v,_=>by simp[Qbi]
 |(k',v')::r,k,v,h=>by
  simp only[Qbi];split
  . rename_i e;subst e;exact h
  . rename_i e;simp only[Zo4,Zqi] at h⊢;refine⟨fun hm=>?_,Qjx r k v h.2⟩;rcases Qtk r k v k' hm with h1|h1
    . exact e h1.symm
    . exact h.1 h1
theorem Qgt(a:Nat->Int)(dv:Nat->V):∀i,((Xk a dv i).map Prod.fst).Nodup
 |0=>by simp[Xk]
 |i+1=>Qjx _ _ _ (Qgt a dv i)
theorem Qrn{L:List (Int×V)}(h:(L.map Prod.fst).Nodup)(b c:Nat)(k:Int)(v w:V)(h1:L[b]?=some (k,v))(h2:L[c]?=some (k,w)):b=c:=by
 obtain⟨l1,e1⟩:=Zoq.1 h1;obtain⟨l2,e2⟩:=Zoq.1 h2;have q1:(L.map Prod.fst)[b]?=some k:=by rw[Zqv,h1];rfl
 have q2:(L.map Prod.fst)[c]?=some k:=by rw[Zqv,h2];rfl
 exact(List.getElem?_inj (by simpa using l1) h).1 (q1.trans q2.symm)
theorem Qtz(p:Nat->Nat->Bool)(v:V)(hv:v.refs p=false):∀(l:List V) (i:Nat),Qi p l=false->Qi p (l.set i v)=false
 |[],i,_=>rfl
 |x::l,0,h=>by simp only[Qi,Zox] at h;simp only[List.set_cons_zero,Qi,hv,h.2,Zqs]
 |x::l,i+1,h=>by simp only[Qi,Zox] at h;simp only[List.set_cons_succ,Qi,h.1,Qtz p v hv l i h.2,Zqs]
theorem Qhy(p:Nat->Nat->Bool)(L:List (Int×V))(hL:∀(b:Nat) (k:Int) (v:V),L[b]?=some (k,v)->v.refs p=false):∀(seen:List Nat) (rv:List V),Qi p rv=false->Qi p (Jk L seen rv)=false
 |[],rv,h=>h
 |b::seen,rv,h=>by
  show Qi p (Jk L seen (Qbp L rv b))=false;refine Qhy p L hL seen _ ?_;unfold Qbp;split
  . rename_i k v hk;exact Qtz p v (hL b k v hk) rv _ h
  . exact h
theorem Qkc{rv:List V}{r:Nat->List V}(hl:rv.length=256)(hr:∀i,i<256->∃f,rv[i]?=some (.iS (r i) 256 f))(p:Nat->Nat->Bool):Qi p rv=false:=by
 have:∀l:List V,(∀x∈l,x.refs p=false)->Qi p l=false:=by
  intro l
  induction l with
  |nil=>intro _;rfl
  |cons x l ih=>intro h;simp only[Qi,h x (by simp),ih (fun y hy=>h y (by simp[hy])),Zqs]
 refine this rv fun x hx=>?_;obtain⟨i,hi⟩:=Zos.1 hx;have:i<256:=by rw[<-hl];exact(Zoq.1 hi).1
 obtain⟨f,hf⟩:=hr i this;rw[hi] at hf;cases hf;rfl
theorem Q37(rv:List V)(fl:Bool)(r:Nat->List V)(hl:rv.length=256)(hr:∀i,i<256->∃f,rv[i]?=some (.iS (r i) 256 f))(hrow:∀i,i<256->Jv (r i))(wv:V)(cs:List V)(n:Nat)(hv:Qw 2 wv cs n)(hn:n<=4096)(a:Nat->Int)(dv:Nat->V)
 (hwait:∀j,j<n->cs[2*j]?=some (.int .i64 (a j))/\cs[2*j+1]?=some (dv j))(ha:∀j,j<n->0<=a j/\a j<256)(hdv:∀j,j<n->∃c fl,dv j= .iS c 256 fl/\Jv c)
 (r' :Nat->List V)(hr' :∀i,i<256->∃f,(Jk (Xk a dv n) (List.range (Xk a dv n).length) rv)[i]?=some (.iS (r' i) 256 f))(hrow' :∀i,i<256->Jv (r' i))(sv:V)(hso:sv= .func (.func 34) [] []\/n=0)(hsr:∀p,sv.refs p=false):
 Fz Tp Qg 33 [.agg [.iS rv 256 fl,wv],sv] fun x=>x=Q0n r' (fun _=>0) (fun _=>[]) 0:=by
 refine Zm Tryz.func33 rfl ?_;have wsc:wv.scalar=true:=Qle hv;have hsc:rv.all V.scalar=true:=by
  rw[Zor];intro x hx;obtain⟨i,hi⟩:=Zos.1 hx;have:i<256:=by rw[<-hl];exact(Zoq.1 hi).1
  obtain⟨f,hf⟩:=hr i this;rw[hi] at hf;cases hf;rfl
 have hpu:Qu rv=true:=by
  have:∀l:List V,(∀x∈l,x.pure=true)->Qu l=true:=by
   intro l
   induction l with
   |nil=>intro _;rfl
   |cons x l ih=>intro h;simp only[Qu,h x (by simp),ih (fun y hy=>h y (by simp[hy])),Zqc]
  refine this rv fun x hx=>?_;obtain⟨i,hi⟩:=Zos.1 hx;have:i<256:=by rw[<-hl];exact(Zoq.1 hi).1
  obtain⟨f,hf⟩:=hr i this;rw[hi] at hf;cases hf;rfl
 have cl:=Q43 rv fl hl hsc hpu 33 0 9 [[(2,.cells [.iS rv 256 fl,wv]),(4,.cells [.nS,.nS])]] rfl;have wcl:=hv.cells1;have hK1:WF [[(2,O.cells [.mS 0 9 0 256 none 1,wv]),(4,.cells [.nS,.nS]),(9,.cells rv)]]:=by have q:(fun f _=>Nat.ble 1 f) 0 9=false:=rfl;have rr:Qi (fun f _=>Nat.ble 1 f) rv=false:=Qkc hl hr _;simp only[WF,Q2,Zg,orc,Qi,V.refs,hv.noRefs,rr,Zp9,Zpt];rfl
 obtain⟨rr,KK,hlast,rfl,rfl⟩:=Q89 [[(2,.cells [.mS 0 9 0 256 none 1,wv]),(4,.cells [.nS,.nS]),(9,.cells rv)]] hK1 (.mS 0 9 0 256 none 1) wv rfl rfl cs n hv hn a dv hwait (fun j hj=>by obtain⟨c,f,e,_⟩:=hdv j hj;exact⟨c,f,e⟩) sv hso hsr;have hlast' :callOp Qg (Qn Tp Qg) 33 0 (some 15) 75 [.agg [.mS 0 9 0 256 none 1,wv],sv] [[(2,.cells [.mS 0 9 0 256 none 1,wv]),(4,.cells [.nS,.nS]),(9,.cells rv)]]=
  some (.ret (.map 1 8),[[(2,.cells [.mS 0 9 0 256 none 1,wv]),(4,.cells [.nS,.nS]),(9,.cells rv)],laF (.mS 0 9 0 256 none 1) wv (Xk a dv n)]):=Za rfl rfl rfl hlast
 generalize hL:Xk a dv n=L at hlast' hr';have hLk:∀(b:Nat) (k:Int) (v:V),L[b]?=some (k,v)->(0<=k/\k<256)/\∃c fl,v= .iS c 256 fl/\Jv c:=by intro b k v h;rw[<-hL] at h;obtain⟨j,hj,e⟩:=Qj4 a dv n (k,v) (Zqq h);cases e;exact⟨ha j hj,hdv j hj⟩
 have hFr:∀p:Nat->Nat->Bool,p 0 9=false->Zg p (laF (.mS 0 9 0 256 none 1) wv L)=true:=fun p hp=>by
  have mr:=Qt9 p L (fun x hx=>by
   obtain⟨b,hb⟩:=Zos.1 hx;obtain⟨_,c,f,e,_⟩:=hLk b x.1 x.2 hb
   rw[e];rfl)
  simp only[laF,Zg,orc,Qi,V.refs,hv.noRefs,mr,hp];rfl
 generalize hFL:laF (.mS 0 9 0 256 none 1) wv L=FL at hlast' hFr;simp only[wX,↓Qc,simprocAttr,Tryz.ntmps33,wsc,wcl,cl,hlast'];refine W.opsT (by kernel_rfl) ?_;have g8:∀F:AM.Frame,Qd [F,FL] 1 8=some (Qji L):=fun F=>by rw[<-hFL];rfl
 have rg:rangeV Tp (Qd [[(2,O.cells [.mS 0 9 0 256 none 1,wv]),(4,.cells [.nS,.nS]),(9,.cells rv)],FL]) 0 (some 16) 129 (.map 1 8)=some (.val (.ptr 0 16 0) (some (0,16,.iter (some (1,8)) L.length [] L.length))):=by have n16:Qd [[(2,O.cells [.mS 0 9 0 256 none 1,wv]),(4,.cells [.nS,.nS]),(9,.cells rv)],FL] 0 16=none:=rfl;simp only[rangeV,Tryz.underlying129,g8,Qji,new,n16]
 have lr:∀b∈List.range L.length,b<L.length:=fun b hb=>Zpz.1 hb;simp only[wX,↓Qc,simprocAttr,Tryz.ntmps33,wsc,wcl,cl,hlast',rg];refine W.ul ?_;have hLd:∀(b c:Nat) (k:Int) (v w:V),L[b]?=some (k,v)->L[c]?=some (k,w)->b=c:=by rw[<-hL];exact Qrn (Qgt a dv n)
 refine W.range (d:=some 17) (k:=_) rfl rfl (.exit 0,((Qmd (.ptr 0 2 0) (.ptr 0 4 0) (.ptr 0 16 0)).set 17 (.tuple [.bool false])).set 18 (.bool false),[[(2,O.cells [.mS 0 9 0 256 none 1,wv]),(4,.cells [.nS,.nS]),(9,.cells (Jk L (List.range L.length) rv)),(16,.dead)],FL])
  (fun(seen:List Nat) t H=>Jg [2,4,16] t 0=Qmd (.ptr 0 2 0) (.ptr 0 4 0) (.ptr 0 16 0)/\∃F,H=[F,FL]/\(F=lfF wv (Jk L seen rv) L.length seen\/∃y,F=lfF' wv (Jk L seen rv) L.length seen y))
  (fun seen=>(Ko seen (L.map ent) (List.range L.length)).length) ?_ [] ⟨rfl,_,rfl,.inl rfl⟩ ?_
 . rintro seen t H ⟨ht,F,rfl,hF⟩;have hd:[F,FL].modify 0 (Ju fun s=>[6].contains s)=[lfF wv (Jk L seen rv) L.length seen,FL]:=by
    rcases hF with rfl|⟨y,rfl⟩<;>rfl
   obtain⟨cs,hcs,hall⟩:=Q6h (g:=Qd [lfF wv (Jk L seen rv) L.length seen,FL]) (f:=0) (s:=16) rfl (g8 _) lr (Zn6 _);refine⟨_,_,cs,Z7 (kt:=[2,4,16]) (ds:=[6]) rfl ?_ ?_,?_,fun d hd2=>?_⟩
   . rw[ht];simp[Qmd,Qi,V.refs]
   . rw[show([F,FL].modify 0 (Ju fun s=>[6].contains s))=_ from hd];have yr:Qi (fun f s=>f==0&&[6].contains s) (Jk L seen rv)=false:=by
      refine Qhy _ L (fun b k v h=>?_) seen rv (Qkc hl hr _);obtain⟨_,c,f,e,_⟩:=hLk b k v h;rw[e];rfl
     simp only[lfF,Q2,hFr (fun f s=>f==0&&[6].contains s) rfl,Zg,orc,Qi,V.refs,hv.noRefs,yr];rfl
   . rw[ht];rw[show([F,FL].modify 0 (Ju fun s=>[6].contains s))=_ from hd];exact hcs
   . rw[ht,hd];rcases hall d hd2 with⟨hnil,rfl⟩|⟨⟨e,b⟩,he,rfl⟩
     . simp only[Qmd,lfF];have eA:Jk L seen rv=Jk L (List.range L.length) rv:=by
        refine Qz8 L hLd (fun b k v h=>(hLk b k v h).1.1) seen (fun b hb=>?_) rv (fun b k v h=>by have:=(hLk b k v h).1;omega);rw[Zp1] at hnil;have:=Qte seen (L.map ent) 0 (by rw[List.length_map];exact hnil) b (by omega) (by rw[List.length_map];omega);exact this
       rw[eA];simp only[wA,↓Qc,simprocAttr,wH,wB];exact W.done rfl
     . simp only[Qmd,lfF];have he2:=he;rw[Zp1] at he2;obtain⟨_,hb1,hb2⟩:=Qtx seen (L.map ent) 0 (e,b) (by rw[List.length_map];exact he2);simp only[Nat.sub_zero,Zqv] at hb1;obtain⟨⟨k,v⟩,hb3,rfl⟩:=Zpg.1 hb1;obtain⟨⟨k0,k1⟩,c,cf,rfl,hc⟩:=hLk b k v hb3;have less:=Qjq seen ((ent (k,.iS c 256 cf)),b) _ _ he;simp only[ent];have hA:(Jk L seen rv).length=256:=by rw[B7];exact hl
       have eS:=Qxg L seen b rv k _ hb3;have eB:Qct b (L.map ent) (List.range L.length)=some (.int .i64 k,.agg [.int .i64 k,.iS c 256 cf]):=by have:=Qq0 b (L.map ent) 0 (by omega);rw[List.length_map,<-Zp1,Nat.sub_zero,Zqv,hb3] at this;exact this
       have gl:(seen++[b]).getLast?=some b:=by simp
       generalize Jk L seen rv=y at hA eS⊢;have en:Qbu (Qd [[(2,O.cells [.mS 0 9 0 256 none 1,wv]),(4,.cells [.nS,.nS]),(9,.cells y),(16,.iter (some (1,8)) L.length (seen++[b]) L.length)],FL]) (.ptr 0 16 0)=some (.tuple [.int .i64 k,.agg [.int .i64 k,.iS c 256 cf]]):=by have n16:Qd [[(2,O.cells [.mS 0 9 0 256 none 1,wv]),(4,.cells [.nS,.nS]),(9,.cells y),(16,.iter (some (1,8)) L.length (seen++[b]) L.length)],FL] 0 16=some (.iter (some (1,8)) L.length (seen++[b]) L.length):=rfl;simp only[Qbu,n16,g8,Qji,gl,eB,if_true,Zn2]
       generalize eS2:seen++[b]=seen2 at*;have at1:=Qir (P:=Tp) (f:=0) (s:=9) (o:=0) (cap:=none) (k:= .i64) Zu1 Qau (len:=256) k0 (i:=k) (by omega);have kl:k.toNat+1<=y.length:=by omega
       have es:y.take k.toNat++[.iS c 256 cf]++y.drop (k.toNat+1)=Jk L seen2 rv:=by rw[eS,List.set_eq_take_append_cons_drop,if_pos (by omega),Zo6];rfl
       simp only[wX,↓Qc,simprocAttr,Tryz.ntmps33,en,at1,if_pos kl,es];exact W.done ⟨seen2,⟨rfl,_,rfl,.inr ⟨_,rfl⟩⟩,less⟩
 . have yr:∀p:Nat->Nat->Bool,Qi p (Jk L (List.range L.length) rv)=false:=fun p=>by
    refine Qhy _ L (fun b k v h=>?_) _ rv (Qkc hl hr _);obtain⟨_,c,f,e,_⟩:=hLk b k v h;rw[e];rfl
   have yl:(Jk L (List.range L.length) rv).length=256:=by rw[B7];exact hl
   generalize Jk L (List.range L.length) rv=y at hr' yr yl⊢;have hK2:WF [[(2,O.cells [.mS 0 9 0 256 none 1,.nS]),(4,.cells [.nS,.nS]),(9,.cells y),(16,.dead)],FL]:=by have q:=hFr (fun f _=>Nat.ble (0+1+1) f) rfl;simp only[WF,Q2,q,Zg,orc,Qi,V.refs,yr,Zp9,Zpt];rfl
   have hb:Qo9 [[(2,O.cells [.mS 0 9 0 256 none 1,.nS]),(4,.cells [.nS,.nS]),(9,.cells y),(16,.dead)],FL] (.mS 0 9 0 256 none 1) r' :=by
    refine⟨fun g=>?_,⟨fun i=> .ptr 0 9 i,fun i=>y.getD i .bad,fun i hi=>?_,fun i hi G=>?_,fun i hi=>?_⟩,hrow',rfl,rfl,rfl⟩
    . simp only[Ku,Zu1];rfl
    . have:=Qir (P:=Tp) (f:=0) (s:=9) (o:=0) (cap:=none) (k:= .i64) Zu1 Qau (len:=256) (i:=(i:Int)) (by omega) (by omega);rw[this];have e:0+(i:Int).toNat*1=i:=by omega
      rw[e]
    . obtain⟨f,hf⟩:=hr' i hi;show Q3 Tp 26 y i=_;rw[rd26,hf];simp[List.getD,hf]
    . obtain⟨f,hf⟩:=hr' i hi;exact⟨f,by simp[List.getD,hf]⟩
   obtain⟨rr,KK,tw,rfl,rfl⟩:=Q3p _ hK2 (.mS 0 9 0 256 none 1) .nS r' hb [] 0 Qw.nil (by omega) (fun _=>0) (fun _=>[]) (fun j hj=>by omega) (fun j hj=>by omega);have tw' :=Za (fn:=33) (fr:=0) (d:=some 30) rfl rfl rfl tw;simp only[Qmd,List.set_cons_succ,List.set_cons_zero];have zl:(zerosN [V.int .u8 0] 65536).length=65536:=Qcs _ _;simp only[Ky,if_true] at tw';generalize zerosN [V.int .u8 0] 65536=Z at tw' zl;have fz:=fun HH hg=>Qpy 2 HH r' Z (fun _=>0) (fun _=>[]) 0 hrow' zl hg;simp only[Zp9,Zpt,Nat.reduceAdd,Ky,if_true] at tw' fz;generalize hF3:([(20,.cells (Bx r' Z 256)),(33,.grow 256)]:AM.Frame)=F3 at tw';generalize Qln _ _ _ _ 0=F2 at tw';simp only[Zo8,Zpu] at tw';have fz2:=fun F0=>fz [F0,FL,F2,F3] (by rw[<-hF3];rfl);clear fz hF3;generalize Ke 3 256=R0 at tw' fz2;simp only[wX,↓Qc,simprocAttr,Tryz.ntmps33,tw'];refine W.done ?_;exact Q0.ret (v:= .agg [.gS 3 33 R0 256 1,.nS]) rfl (fz2 _) rfl
end
end Go.Proofs.YtjllfbejpjonnaaGreatDoor
