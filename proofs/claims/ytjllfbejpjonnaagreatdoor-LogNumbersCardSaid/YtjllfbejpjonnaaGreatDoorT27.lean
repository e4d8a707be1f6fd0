/- This file holds in one the texts F20, F21, F22, LN6, LN7, LN8, LN9, LN10, LN11, LN12, LN13, LN14; each says at its head what it proves. -/
import Derived.Test.YtjllfbejpjonnaaGreatDoorT24
import Derived.Test.YtjllfbejpjonnaaGreatDoorT25
import Derived.Test.YtjllfbejpjonnaaGreatDoorT26
set_option linter.unusedSimpArgs false
set_option linter.unusedVariables false
namespace Go.Proofs.YtjllfbejpjonnaaGreatDoor
section
set_option maxRecDepth 100000
open Go.AM
attribute [local irreducible] U W
theorem Q1r(kv fv:V)(k l:List UInt8)(hk:Qe kv k)(hkl:k.length=16)(hf:Qe fv l)(hfl:l.length<=4)(m:Nat)(hm:m<=100000)(fo so:Nat)(H0:Heap)(I:Nat->Heap->Prop)(S:Heap->Prop)(h0:I 0 (H0++[[]]))
 (step:∀j H,j<=m->I j H->∀w z,Qe w z->z.length=16->∃b H',Qn Tp Qg none [.yield fo so,w] H=some (.ret (.bool b),H')/\(b=true->j<m/\I (j+1) H')/\(b=false->S H')):
 CW Tp Qg 259 [.yield fo so,.iptr [kv] 0,.iptr [fv] 0] H0 fun r H' =>r= .ret (.tuple [])/\∃HE,S HE/\H' =Yk H0.length (.tuple []) HE:=by
 refine Zu Tryz.func259 rfl ?_;simp only[wX,↓Qc,simprocAttr,Tryz.ntmps259];refine W.ul ?_;refine W.loop (fun(j:Nat) t H=>Jg [0,1,2,4] t 0=Q23 (.yield fo so) (.iptr [kv] 0) (.iptr [fv] 0) (.int .i64 j)/\j<=m/\I j H) (fun j=>m-j) ?_ 0 ⟨rfl,Zq1 _,h0⟩;rintro j t H ⟨ht,hj,hI⟩;refine⟨_,_,Zx (kt:=[0,1,2,4]) rfl rfl,?_⟩;rw[ht];simp only[Q23];obtain⟨q,⟨pv,p,e,rfl,hp,hpl⟩,hm0⟩:=(Qat j (by omega)).op (by rfl) rfl;have hm1:∀fr s H,_:=fun fr s H=>hm0 259 fr s H rfl;obtain⟨q,rfl,hm0⟩:=(Qii _ _ (Qs1 hk hf hp true) (by simp) (by simp;omega) (by simp;omega)).op (by rfl) (Qa (Qhc (Qs1 hk hf hp true) _ _) rfl);have hm2:∀fr s H,_:=fun fr s H=>hm0 259 fr s H rfl;have hfl:[k,l,p].flatten.length<=1048576:=by simp;omega
 have hq:=Qe.mk [k,l,p].flatten false;generalize[k,l,p].flatten=c at*;obtain⟨q,rfl,hm0⟩:=(Q3v _ c hq hfl).op (by rfl) (Qa (hq.frz _) rfl);have hm3:∀fr s H,_:=fun fr s H=>hm0 259 fr s H rfl;have hz:=Q8w c;have hzl:(Qds (Kk c) 4).length=16:=Qd3 _ 4;generalize Qds (Kk c) 4=z at*;obtain⟨b,H',st,hT,hF⟩:=step j H hj hI _ z hz hzl;have mt:∀s,s<2000000->Qg.mt 259 s=false:=fun s h=>B2 h rfl;have p1:=Qad hk;have p2:=Qad hf;have p3:=Qad hp;have c1:=Q7 hk;have c2:=Q7 hf;have c3:=Q7 hp;have wi:(IntKind.i64).wrap ((j:Int)+1)=((j+1:Nat):Int):=by rw[wrap_i64]<;>omega
 cases b
 . simp only[wX,↓Qc,simprocAttr,hm1,hm2,hm3,st,Qaw,Qj3,mt,p1,p2,p3,c1,c2,c3,wi,Zu1];refine W.done ?_;simp only[wA,↓Qc,simprocAttr];exact W.done (End.ret (v:= .tuple []) rfl ⟨rfl,_,hF rfl,rfl⟩)
 . obtain⟨hlt,hI'⟩:=hT rfl;simp only[wX,↓Qc,simprocAttr,hm1,hm2,hm3,st,Qaw,Qj3,mt,p1,p2,p3,c1,c2,c3,wi,Zu1];exact W.done ⟨j+1,⟨rfl,hlt,hI'⟩,by omega⟩
theorem Qvi{H:Heap}{fr s st f r i:Nat}{t t0:List V}(hg:Qd H fr s=some (.loop st (some (some i)) f r t0))(hst:st≠1)(h1:Qi (Jd fr s) t=false)(h2:Q2 (Jd fr s) (H.modify fr (Ju fun x=>[s].contains x))=true):
 K0 fr s t H=some (.exit i,t,H.modify fr (Ju fun x=>[s].contains x)):=by
 simp only[K0,hg,if_neg hst,h1,h2,Zn5,if_false,if_true]
def Qfh(v:V)(o:AM.O):AM.Frame:=[(5,.cells [.int .i64 256]),(8,.cells [v]),(1000005,o)]
def strI(T:List V):Nat->Heap->Prop
 |0,H=>H=[[],Qfh .nS (.loop 0 none 218 5 T),[]]
 |j+1,H=>∃c:List UInt8,c.length=16*(j+1)/\H=[[],Qfh (.gS 3 31 (Qb c) (16*(j+1)) 1) (.loop 0 none 218 5 T),[],[(31,.grow (16*(j+1)))]]
def strS(T:List V)(H:Heap):Prop:=∃c:List UInt8,c.length=256/\H=[[],Qfh (.gS 3 31 (Qb c) 256 1) (.loop 2 (some (some 0)) 218 5 T),[],[(31,.grow 256)]]
theorem Qra{n:Nat}(hn:2<=n){T:List V}(hr:Qi (fun f _=>Nat.ble 2 f) T=false){v:V}{st:Nat}{p:Option (Option Nat)}(hv:v.refs (fun f _=>Nat.ble n f)=false):
 Zg (fun f _=>Nat.ble n f) (Qfh v (.loop st p 218 5 T))=true:=by
 have h0:(O.loop st p 218 5 T).refs (fun f _=>Nat.ble n f)=false:=Kv (Qa0 hn) T hr;have h1:(O.cells [v]).refs (fun f _=>Nat.ble n f)=false:=by simp only[O.refs,Qi,hv];rfl
 simp only[Qfh,Zg,h0,h1];rfl
theorem Q5m(T:List V)(hT:T.length=36)(h5:T.getD 5 .bad= .ptr 1 5 0)(h8:T.getD 8 .bad= .ptr 1 8 0)(hr:Qi (fun f _=>Nat.ble 2 f) T=false)(j:Nat)(hj:j<=16)(H:Heap)(hI:strI T j H)(w:V)(z:List UInt8)(hw:Qe w z)(hz:z.length=16):
 ∃b H',Qn Tp Qg none [.yield 1 1000005,w] H=some (.ret (.bool b),H')/\(b=true->j<16/\strI T (j+1) H')/\(b=false->strS T H'):=by
 have mt:∀s,s<2000000->Qg.mt 218 s=false:=fun s h=>B2 h rfl;have sc:∀g,Qk g 1 w=some (Qb z,z.length):=fun g=>Qw.sc hw;rw[hz] at sc;have sw:=Q4 hw;have lg:∀(g:Get) (f s:Nat) (c:List V) (n e:Nat),Ku Tp g 26 (.gS f s c n e)=some (.int .i64 n):=fun g f s c n e=>Q9c Zu0 g;have scw:=Q7 hw;cases j with
 |zero=>
  cases hI;have g0:Qd [[],Qfh .nS (.loop 1 none 218 5 T),[],[]] 3 31=none:=rfl;have ap:Qr Tp (Qg.mt 218) 3 (Qd [[],Qfh .nS (.loop 1 none 218 5 T),[],[]]) (some 31) 26 26 .nS w=some (.val (.gS 3 31 (Qb z) 16 1) (some (3,31,.grow 16))):=by rw[Qcp Zu0 sz5 Qj0 zc5 rfl Zu0 (sc _) (by decide) (by decide),Kr (mt _ (by decide)) (Ja _) g0]
  obtain⟨r,H3,h1,x,rfl,h5⟩:=Qe3 (P:=Tp) (pol:=Qg) (fo:=1) (so:=1000005) (args:=[w]) (H:=[[],Qfh .nS (.loop 0 none 218 5 T),[]]) (p:=none) (fL:=218) (rid:=5) (t0:=T)
   (R:=fun r H' =>∃b,r= .ret (.bool b)/\(b=true->0<16/\strI T 1 H')/\(b=false->strS T H')) rfl (Qcw Tryz.func218 rfl rfl) rfl (by
     change W (U _ _ _ _ _ _ _ .normal (T.set 24 _) _) _;simp only[wX,↓Qc,simprocAttr,Qaq,Qas,Zql,hT,h5,h8,Nat.reduceBEq,lg];refine W.done ⟨rfl,none,218,5,T,rfl,?_⟩;simp only[Qfh] at ap⊢;simp only[wX,↓Qc,simprocAttr,Qaq,Qas,Zql,hT,h5,h8,Nat.reduceBEq,lg,Qv,ap,mt,Zu0,sw,scw];refine W.done ⟨_,_,rfl,true,rfl,fun _=>⟨z,by omega,?_⟩,(fun h=>by cases h)⟩
     exact Qtt rfl)
  exact⟨x,H3,h1,h5⟩
 |succ j=>
  obtain⟨c,hc,rfl⟩:=hI;have crefs:∀q (l:List UInt8),Qi q (Qb l)=false:=fun q l=>B6 q l;by_cases h16:j+1=16
  . have hj15:j=15:=by omega
    subst hj15;obtain⟨r,H3,h1,x,rfl,h5⟩:=Qe3 (P:=Tp) (pol:=Qg) (fo:=1) (so:=1000005) (args:=[w]) (H:=[[],Qfh (.gS 3 31 (Qb c) (16*(15+1)) 1) (.loop 0 none 218 5 T),[],[(31,.grow (16*(15+1)))]]) (p:=none) (fL:=218) (rid:=5) (t0:=T)
     (R:=fun r H' =>∃b,r= .ret (.bool b)/\(b=true->15+1<16/\strI T (15+1+1) H')/\(b=false->strS T H')) rfl (Qcw Tryz.func218 rfl rfl) rfl (by
       change W (U _ _ _ _ _ _ _ .normal (T.set 24 _) _) _;simp only[wX,↓Qc,simprocAttr,Qaq,Qas,Zql,hT,h5,h8,Nat.reduceBEq,lg];refine W.done ⟨rfl,none,218,5,T,rfl,?_⟩;simp only[Qfh];simp only[wX,↓Qc,simprocAttr,Qaq,Qas,Zql,hT,h5,h8,Nat.reduceBEq,lg];refine W.done ⟨_,_,rfl,false,rfl,(fun h=>by cases h),fun _=>⟨c,hc,?_⟩⟩;refine Zf (H:=[[],Qfh (.gS 3 31 (Qb c) 256 1) (.loop 2 (some (some 0)) 218 5 T),[],[(31,.grow 256)]]) (G:=[[]]) rfl ?_;show Q2 (fun f _=>Nat.ble 4 f) _=true
       simp only[Q2,Qra (n:=4) (by omega) hr (v:= .gS 3 31 (Qb c) 256 1) (st:=2) (p:=some (some 0)) (by simp only[V.refs,crefs];rfl)];rfl)
    exact⟨x,H3,h1,h5⟩
  . have pz:∀q,Qi q (Qb (c++z))=false:=fun q=>B6 q _;generalize hR:[[],Qfh (.gS 3 31 (Qb c) (16*(j+1)) 1) (.loop 1 none 218 5 T),[],[(31,.grow (16*(j+1)))],[]]=HH;have g0:Qd HH 3 31=some (.grow (16*(j+1))):=by rw[<-hR];rfl
    have ap:Qr Tp (Qg.mt 218) 4 (Qd HH) (some 31) 26 26 (.gS 3 31 (Qb c) (16*(j+1)) 1) w=some (.val (.gS 3 31 (Qb (c++z)) (16*(j+1+1)) 1) (some (3,31,.grow (16*(j+1+1))))):=by rw[Qc8 Zu0 sz5 Qj0 zc5 rfl Zu0 (sc _) (by decide) (Zw (by omega) (by omega)) (Ja _) (Z8 _) g0,K9,show 16*(j+1)+16=16*(j+1+1) by omega]
    rw[<-hR] at ap;have c1:decide (((16*(j+1):Nat):Int)>=256)=false:=by simp only[decide_eq_false_iff_not];omega
    obtain⟨r,H3,h1,x,rfl,h5⟩:=Qe3 (P:=Tp) (pol:=Qg) (fo:=1) (so:=1000005) (args:=[w]) (H:=[[],Qfh (.gS 3 31 (Qb c) (16*(j+1)) 1) (.loop 0 none 218 5 T),[],[(31,.grow (16*(j+1)))]]) (p:=none) (fL:=218) (rid:=5) (t0:=T)
     (R:=fun r H' =>∃b,r= .ret (.bool b)/\(b=true->j+1<16/\strI T (j+1+1) H')/\(b=false->strS T H')) rfl (Qcw Tryz.func218 rfl rfl) rfl (by
       change W (U _ _ _ _ _ _ _ .normal (T.set 24 _) _) _;simp only[wX,↓Qc,simprocAttr,Qaq,Qas,Zql,hT,h5,h8,Nat.reduceBEq,lg];refine W.done ⟨rfl,none,218,5,T,rfl,?_⟩;clear hR g0;generalize hk:16*(j+1)=kk at*;generalize hk2:16*(j+1+1)=kk2 at*;simp only[Qfh] at ap⊢;simp only[wX,↓Qc,simprocAttr,Qaq,Qas,Zql,hT,h5,h8,Nat.reduceBEq,lg,Qv,ap,mt,Zu0,sw,scw,c1];refine W.done ⟨_,_,rfl,true,rfl,fun _=>⟨by omega,c++z,by simp;omega,?_⟩,(fun h=>by cases h)⟩;rw[hk2];refine Zf (H:=[[],Qfh (.gS 3 31 (Qb (c++z)) kk2 1) (.loop 0 none 218 5 T),[],[(31,.grow kk2)]]) (G:=[[]]) rfl ?_;show Q2 (fun f _=>Nat.ble 4 f) _=true
       simp only[Q2,Qra (n:=4) (by omega) hr (v:= .gS 3 31 (Qb (c++z)) kk2 1) (st:=0) (p:=none) (by simp only[V.refs,pz];rfl)];rfl)
    exact⟨x,H3,h1,h5⟩
theorem Zb0(l:List UInt8)(f:Bool)(n:Nat)(hn:l.length=n)(h0:0<n)(hl:n<=1048576):CW Tp Qg 133 [.iS (Qb l) n f] [] fun r H=>r= .ret (.mS 0 7 0 n none 1)/\Qd H 0 7=some (.cells (Qb l)):=by
 refine Zu Tryz.func133 rfl ?_;subst hn;have hv:=Qe.mk l f;have sc:=Qw.sc (g:=Qd [[]]) hv;have mt7:Qg.mt 133 7=true:=rfl;have mt5:Qg.mt 133 5=false:=rfl;have ap:Qr Tp (Qg.mt 133) 0 (Qd [[]]) (some 7) 26 26 (.iS [] 0 true) (.iS (Qb l) l.length f)=some (.val (.mS 0 7 0 l.length none 1) (some (0,7,.cells (Qb l)))):=by rw[Qcf Zu0 sz5 Qj0 zc5 rfl Zu0 sc h0 rfl (Zw (by omega) (by omega)),Zpu,Zod,Qav mt7 (Z8 l) rfl]
 simp only[wX,↓Qc,simprocAttr,Tryz.ntmps133,Jj Zu0,Qv,ap,mt7,mt5,Zu0];refine W.done (End.ret (v:= .mS 0 7 0 l.length none 1) rfl ⟨rfl,?_⟩);rw[Zj rfl];rfl
def strH(c o:List UInt8):Heap:=[[],[(5,.cells [.int .i64 256]),(8,.cells [.gS 3 31 (Qb c) 256 1]),(35,.cells (Qb o))],[],[(31,.grow 256)]]
theorem Zbc(kv fv:V)(k l:List UInt8)(hk:Qe kv k)(hkl:k.length=16)(hf:Qe fv l)(hfl:l.length<=4)(T:List V)(hT:T.length=36)(h5:T.getD 5 .bad= .ptr 1 5 0)(h8:T.getD 8 .bad= .ptr 1 8 0)(hr:Qi (fun f _=>Nat.ble 2 f) T=false):
 CW Tp Qg 259 [.yield 1 1000005,.iptr [kv] 0,.iptr [fv] 0] [[],Qfh .nS (.loop 0 none 218 5 T)] fun r H' =>r= .ret (.tuple [])/\strS T H' :=by
 refine(Q1r kv fv k l hk hkl hf hfl 16 (by omega) 1 1000005 [[],Qfh .nS (.loop 0 none 218 5 T)] (strI T) (strS T) rfl ?_).mono ?_
 . intro j H hj hI w z hw hz;exact Q5m T hT h5 h8 hr j hj H hI w z hw hz
 . rintro r H ⟨rfl,HE,⟨c,hc,rfl⟩,rfl⟩;exact⟨rfl,c,hc,Qtt rfl⟩
theorem Q5d(kv:V)(k:List UInt8)(iv:Int)(hk:Qe kv k)(hkl:k.length=16):CW Tp Qg 218 [kv,.int .u32 iv,.int .i64 256] [[]] fun r H' =>∃c:List UInt8,c.length=256/\r= .ret (.tuple [.mS 1 35 0 256 none 1,.int .i64 0])/\H' =strH c c:=by
 refine Zu Tryz.func218 rfl ?_;obtain⟨m,⟨fv,l,rfl,hf,hfl⟩,hm⟩:=(Q4r kv k iv hk).op (by rfl) (Qa (hk.frz _) (Qa rfl rfl));have hm1:∀fr s H,_:=fun fr s H=>hm 218 fr s H rfl;have len:=hk.len Zu0;rw[hkl] at len;have nk:∀q,kv.refs q=false:=fun q=>hk.noRefs q;have nf:∀q,fv.refs q=false:=fun q=>hf.noRefs q;simp only[wX,↓Qc,simprocAttr,Tryz.ntmps218,len,hm1];refine W.rfunc (rid:=5) rfl rfl rfl ?_;refine(Zbc kv fv k l hk hkl hf hfl _ rfl rfl rfl ?_).mono ?_
 . simp only[Qi,V.refs,nk,nf];rfl
 rintro r H2 ⟨rfl,c,hc,rfl⟩;refine⟨_,rfl,?_⟩;have cr:∀q,Qi q (Qb c)=false:=fun q=>B6 q c;have hH:∀T G,List.modify ([]::Qfh (.gS 3 31 (Qb c) 256 1) (.loop 2 (some (some 0)) 218 5 T)::G) 1 (Ju fun x=>[Zd 5].contains x)=[]::[(5,O.cells [.int .i64 256]),(8,.cells [.gS 3 31 (Qb c) 256 1])]::G:=fun T G=>rfl;rw[Qvi (st:=2) (i:=0) (f:=218) (r:=5) rfl (by decide) (by simp only[Qi,V.refs,nk,nf];rfl) (by
  rw[hH]
  simp only[Q2,Zg,O.refs,Qi,V.refs,cr];rfl)]
 rw[hH];obtain⟨r,H1,g1,rfl,g2⟩:=Zb0 c false 256 hc (by omega) (by omega);have lf:∀(H:Heap),Qd H 1 35=none->callOp Qg (Qn Tp Qg) 218 1 (some 35) 133 [.iS (Qb c) 256 false] H=some (.ret (.mS 1 35 0 256 none 1),wr H (some (1,35,.cells (Qb c)))):=fun H hg=>
  Qel (x:=(.mS 1 35 0 256 none 1,35,.cells (Qb c))) rfl rfl rfl rfl g1 (by simp only[Qb5,hg,g2,Ja,if_true])
 have lf0:=lf [[],[(5,O.cells [.int .i64 256]),(8,.cells [.gS 3 31 (Qb c) 256 1])],[],[(31,.grow 256)]] rfl;have sl:∀g,Zn Tp g 26 (.gS 3 31 (Qb c) 256 1) none (some (.int .i64 256)) none=some (.iS (Qb c) 256 false):=fun g=>by
  have ol:Jt (some (.int .i64 256))=some (some 256):=rfl;have on:Jt none=some none:=rfl;have cl:(Qb c).length=256*1:=by rw[Qy,hc]
  have cu:Xh 256 256 none (some 256) none=some (0,256,256):=by simp[Xh]
  have tk:((Qb c).drop (0*1)).take ((256-0)*1)=Qb c:=by rw[Zq9,Zpe];exact Zpf (by rw[Qy,hc];decide)
  simp only[Zn,ol,on,Zu0,sz5,Ja,Qll,cl,cu,if_true,and_self,tk];rfl
 simp only[wX,↓Qc,simprocAttr,Qaw,sl,lf0];refine W.done (End.ret (v:= .tuple [.mS 1 35 0 256 none 1,.int .i64 0]) rfl ⟨c,hc,rfl,?_⟩);rw[Zj rfl];rfl
theorem u8w(x:Int):∃z:UInt8,(IntKind.u8).wrap x=((z.toNat:Nat):Int):=by
 refine⟨UInt8.ofNat (x%256).toNat,?_⟩;rw[IntKind.wrap_u8];have h:(x%256).toNat<256:=by omega
 simp only[UInt8.toNat_ofNat'];omega
theorem Qv3(c o:List UInt8)(i:Nat)(h:i<o.length):(Qb o)[i]?=some (.int .u8 ((o[i].toNat:Nat):Int)):=by simp[Qb,Zn1 h]
theorem Ze1(o:List UInt8)(i:Nat)(z:UInt8)(h:i<o.length):(Qb o).take i++ .int .u8 ((z.toNat:Nat):Int)::(Qb o).drop (i+1)=Qb (o.set i z):=by simp only[Qb,List.map_set];rw[List.set_eq_take_append_cons_drop,if_pos (by simpa using h)]
theorem Zcl(kv bv:V)(k b:List UInt8)(iv:Int)(hk:Qe kv k)(hb:Qe bv b)(hbl:b.length=256):Fz Tp Qg 163 [kv,.int .u32 iv,bv] RBlk:=by
 refine Zm Tryz.func163 rfl ?_;have len:=hk.len Zu0;have lenb:=hb.len Zu0;rw[hbl] at lenb;by_cases h16:k.length=16
 . rw[h16] at len;obtain⟨r,H',e1,c,hc,rfl,rfl⟩:=Q5d kv k iv hk h16;have hcall:∀d,callOp Qg (Qn Tp Qg) 163 0 d 218 [kv,.int .u32 iv,.int .i64 256] [[]]=_:=fun d=>Za rfl rfl rfl e1;simp only[wX,↓Qc,simprocAttr,Tryz.ntmps163,len,lenb,hcall];refine W.ul ?_;refine W.loop (fun(i:Nat) t H=>∃o:List UInt8,o.length=256/\Jg [8,9,28,29,30] t 0=Q3t (.mS 1 35 0 256 none 1) (.int .i64 0) bv (.int .i64 256) (.int .i64 i)/\i<=256/\H=strH c o) (fun i=>256-i) ?_ 0 ⟨c,hc,rfl,Zq1 _,rfl⟩;rintro i t H ⟨o,ho,ht,hi,rfl⟩;refine⟨_,_,Zx (kt:=[8,9,28,29,30]) rfl rfl,?_⟩;rw[ht];simp only[Q3t];by_cases h:i<256
   . have c1:decide ((i:Int)<256)=true:=Zrh (by omega);have w1:(IntKind.i64).wrap ((i:Int)+1)=((i+1:Nat):Int):=by rw[wrap_i64]<;>omega
     have at1:=Qw.at (P:=Tp) (k:= .i64) Zu0 sz5 (by decide) hb (i:=(i:Int)) (by omega) (by omega);have g1:(Qb b)[(i:Int).toNat*1]?=some (.int .u8 ((b[i].toNat:Nat):Int)):=by rw[Zqh,Zof];exact Qv3 [] b i (by omega)
     have g1' :(Qb b)[(i:Int).toNat]?=some (.int .u8 ((b[i].toNat:Nat):Int)):=by rw[Zqh];exact Qv3 [] b i (by omega)
     have am:Qm Tp 26 (.mS 1 35 0 256 none 1) (.int .i64 i)=some (.ptr 1 35 i):=by simp only[Qm,Zu0,sz5];rw[if_pos ⟨by omega,by omega,trivial⟩];simp
     have g2:=Qv3 [] o i (by omega);have ol:(Qb o).length=256:=by rw[Qy,ho]
     obtain⟨z,hz⟩:=u8w (((BitVec.ofInt (IntKind.u8).bits (o[i].toNat:Int))^^^(BitVec.ofInt (IntKind.u8).bits (b[i].toNat:Int))).toNat:Int);have bx:∀p q,Zq Tp .xor 5 p q (.int .u8 ((o[i].toNat:Nat):Int)) (.int .u8 ((b[i].toNat:Nat):Int))=some (.int .u8 ((z.toNat:Nat):Int)):=fun p q=>by rw[<-hz];rfl
     have sp:=Ze1 o i z (by omega);have il:i+1<=256:=h;generalize o[i]=oi at*;generalize b[i]=bi at*;simp only[strH];simp only[wX,↓Qc,simprocAttr,c1,w1,at1,g1,g1',am,g2,bx,ol,il];refine W.done ⟨i+1,⟨o.set i z,by simp[ho],rfl,h,?_⟩,by omega⟩;rw[Zo6,Zo7,sp]
   . have c1:decide ((i:Int)<256)=false:=Zri (by omega);have hi' :i=256:=by omega
     subst hi';simp only[strH];simp only[wX,↓Qc,simprocAttr,c1];refine W.done ?_;simp only[wX,↓Qc,simprocAttr];have f1:=Q2q (g:=Qd (strH c o)) (f:=1) (s:=35) (l:=o) rfl 9;rw[ho] at f1;exact W.done (Q0.ret (v:= .tuple [.mS 1 35 0 256 none 1,.int .i64 0]) rfl (K3 (Qa f1 (Qa rfl rfl))) ⟨_,0,rfl,.inl ⟨rfl,o,by have:=Qe.mk o false;rwa[ho] at this,ho⟩⟩)
 . have c1:((k.length:Int) !=16)=true:=by simp;omega
   simp only[wX,↓Qc,simprocAttr,Tryz.ntmps163,len,c1];exact W.done (Q0.ret (v:= .tuple [.nS,.int .i64 2]) rfl rfl ⟨_,2,rfl,.inr ⟨by decide,rfl⟩⟩)
theorem Qr9(kv bv:V)(k b:List UInt8)(iv:Int)(hk:Qe kv k)(hb:Qe bv b)(hbl:b.length=256):Fz Tp Qg 110 [kv,.int .u32 iv,bv] RBlk:=by
 refine Zm Tryz.func110 rfl ?_;have len:=hk.len Zu0;have lenb:=hb.len Zu0;rw[hbl] at lenb;obtain⟨m,⟨v,e,rfl,hr⟩,hm⟩:=(Zcl kv bv k b iv hk hb hbl).op (by rfl) (Qa (hk.frz _) (Qa rfl (Qa (hb.frz _) rfl)));have hm1:∀s H,_:=fun s H=>hm 110 0 s H rfl;have hf:∀g,AM.frz g 11 v=some v:=fun g=>by
  rcases hr with⟨_,l,hl,_⟩|⟨_,rfl⟩
  . exact hl.frz 10
  . rfl
 cases c1:((k.length:Int)==16)
 all_goals
  simp only[wX,↓Qc,simprocAttr,Tryz.ntmps110,len,lenb,hm1,c1];exact W.done (Q0.ret (v:= .tuple [v,.int .i64 e]) rfl (K3 (Qa (hf _) (Qa rfl rfl))) ⟨v,e,rfl,hr⟩)
def Q84(x:V):Prop:=∃(d:V) (e:Int),x= .tuple [.agg [d,.nS],.int .i64 e]/\((e=0/\∃rows:List (List UInt8),rows.length=256/\(∀r∈rows,r.length=256)/\d=Kb rows)\/(e≠0/\d= .nS))
theorem Qld{bv wv:V}{bl:List (List UInt8)}{wl:List (Int×List UInt8)}(hb:Z2 bv bl)(hw:Jh wv wl)(g:Get):frz g depth (.func (.func 32) [] [.iptr [bv,wv] 0])=some (.func (.func 32) [] [.iptr [bv,wv] 0]):=rfl
theorem Q53{bv wv:V}{bl:List (List UInt8)}{wl:List (Int×List UInt8)}(hb:Z2 bv bl)(hw:Jh wv wl)(w0:∀w∈wl,-9223372036854775808<=w.1/\w.1<=9223372036854775807)(ok:Jn bl wl=true):
 Fz Tp Qg 32 [.iptr [bv,wv] 0] fun x=>∃rows:List (List UInt8),rows.length=256/\(∀r∈rows,r.length=256)/\x= .agg [Kb rows,.nS]:=by
 refine Zm Tryz.func32 rfl ?_;have fd:=Ks hb hw (fun _ _=>none);obtain⟨m,⟨rows,r1,r2,rfl⟩,hm⟩:=(Q8u hb hw w0 ok).op (by rfl) (Qa fd (Qa rfl rfl));obtain⟨bcs,hbc,hbv⟩:=hb;obtain⟨wcs,hwc,hwv⟩:=hw;have sb:=Q4 hbv;have sw:=Q4 hwv;have hm1:∀s H,_:=fun s H=>hm 32 0 s H rfl;have sr:(Kb rows).scalar=true:=rfl;simp only[wX,↓Qc,simprocAttr,Tryz.ntmps32,sb,sw,hm1,sr];exact W.done (Q0.ret (v:= .agg [Kb rows,.nS]) rfl (Qei (Qa ((Qhg rows r1).frz 10) (Qa rfl rfl))) ⟨rows,r1,r2,rfl⟩)
theorem Qwy{bv wv:V}{bl:List (List UInt8)}{wl:List (Int×List UInt8)}(hb:Z2 bv bl)(hw:Jh wv wl)(b1:bl.length<=Y4)(b2:wl.length<=Y4)(w0:∀w∈wl,-9223372036854775808<=w.1/\w.1<=9223372036854775807):
 Fz Tp Qg 31 [.agg [bv,wv],.bool true,.func (.func 32) [] [.iptr [bv,wv] 0]] Q84:=by
 refine Zm Tryz.func31 rfl ?_;have fd:=Ks hb hw (fun _ _=>none);obtain⟨m,rfl,hm⟩:=(Qd5 bv wv bl wl hb hw b1 b2).op (by rfl) (Qa fd rfl);have hm1:∀s H,_:=fun s H=>hm 31 0 s H rfl;have hb' :=hb;have hw' :=hw;obtain⟨bcs,hbc,hbv⟩:=hb';obtain⟨wcs,hwc,hwv⟩:=hw';have sb:=Q4 hbv;have sw:=Q4 hwv;cases ok:Jn bl wl
 . rw[ok] at hm1;simp only[okE] at hm1;simp only[wX,↓Qc,simprocAttr,Tryz.ntmps31,sb,sw,hm1];exact W.done (Q0.ret (v:= .tuple [.agg [.nS,.nS],.int .i64 8]) rfl rfl ⟨.nS,8,rfl,.inr ⟨by decide,rfl⟩⟩)
 . rw[ok] at hm1;simp only[okE] at hm1;obtain⟨m,⟨rows,r1,r2,rfl⟩,hm⟩:=(Q53 hb hw w0 ok).op (by rfl) (Qa (by
    have e:=Qld hb hw (fun _ _=>none)
    first|rfl|(simp only[depth,frz,Q5,hbv.frz,hwv.frz,Zn2])) rfl)
   have hm2:∀s H,_:=fun s H=>hm 31 0 s H rfl;have sr:(Kb rows).scalar=true:=rfl;simp only[wX,↓Qc,simprocAttr,Tryz.ntmps31,sb,sw,hm1,hm2,sr];exact W.done (Q0.ret (v:= .tuple [.agg [Kb rows,.nS],.int .i64 0]) rfl (K3 (Qa (Qei (Qa ((Qhg rows r1).frz 9) (Qa rfl rfl))) (Qa rfl rfl))) ⟨Kb rows,0,rfl,.inl ⟨rfl,rows,r1,r2,rfl⟩⟩)
theorem Qm6{bv wv:V}{bl:List (List UInt8)}{wl:List (Int×List UInt8)}(hb:Z2 bv bl)(hw:Jh wv wl)(b1:bl.length<=Y4)(b2:wl.length<=Y4)(w0:∀w∈wl,-9223372036854775808<=w.1/\w.1<=9223372036854775807):
 Fz Tp Qg 13 [.agg [bv,wv]] Q84:=by
 refine Zm Tryz.func13 rfl ?_;have fd:=Ks hb hw (fun _ _=>none);obtain⟨m,⟨d,e,rfl,hr⟩,hm⟩:=(Qwy hb hw b1 b2 w0).op (by rfl) (Qa fd (Qa rfl (Qa (Qld hb hw _) rfl)));have hm2:∀s H,_:=fun s H=>hm 13 0 s H rfl;obtain⟨bcs,hbc,hbv⟩:=hb;obtain⟨wcs,hwc,hwv⟩:=hw;have sb:=Q4 hbv;have sw:=Q4 hwv;have pb:=Qad hbv;have pw:=Qad hwv;rcases hr with⟨rfl,rows,r1,r2,rfl⟩|⟨he,rfl⟩
 . have sr:(Kb rows).scalar=true:=rfl;simp only[wX,↓Qc,simprocAttr,Tryz.ntmps13,sb,sw,pb,pw,hm2,sr];exact W.done (Q0.ret (v:= .tuple [.agg [Kb rows,.nS],.int .i64 0]) rfl (K3 (Qa (Qei (Qa ((Qhg rows r1).frz 9) (Qa rfl rfl))) (Qa rfl rfl))) ⟨Kb rows,0,rfl,.inl ⟨rfl,rows,r1,r2,rfl⟩⟩)
 . simp only[wX,↓Qc,simprocAttr,Tryz.ntmps13,sb,sw,pb,pw,hm2];exact W.done (Q0.ret (v:= .tuple [.agg [.nS,.nS],.int .i64 e]) rfl rfl ⟨.nS,e,rfl,.inr ⟨he,rfl⟩⟩)
theorem Q79(v:V)(cs:List V)(n:Nat)(hv:Qw 2 v cs n):Fz Tp Qg 73 [v] fun r=>r= .nS/\cs=[]/\n=0\/r= .iS cs n true:=by
 refine Zm Tryz.func73 rfl ?_;have len:=fun g=>hv.len (g:=g) Zu5;have h2:∃w,(∀g,Zn Tp g 23 v none (some (.int .i64 n)) (some (.int .i64 n))=some w)/\Qw 2 w cs n/\(w= .nS/\cs=[]/\n=0\/w= .iS cs n true):=by
  have ol:∀x:Nat,Jt (some (.int .i64 x))=some (some (x:Int)):=fun x=>rfl;obtain⟨hl',⟨rfl,h0⟩|⟨f,rfl⟩⟩:=hv
  . subst h0;have e:cs=[]:=Zoz (by omega);subst e;refine⟨.nS,fun g=>?_,Qw.nil,.inl ⟨rfl,rfl,rfl⟩⟩;simp only[Zn,ol,Zu5,Qcm,Xh];rfl
  . refine⟨.iS cs n true,fun g=>?_,⟨hl',.inr ⟨true,rfl⟩⟩,.inr rfl⟩;have on:Jt none=some none:=rfl;simp only[Zn,ol,on,Zu5,Qcm,Qll,hl',if_true,Xh,Zpb,Zo0];rw[if_pos ⟨by omega,by omega,by omega,by omega,by omega,by omega,by simp⟩];have:cs.take (n*2)=cs:=Zpf (by omega);simp[this]
 obtain⟨w,sl,hw,hc⟩:=h2;simp only[wX,↓Qc,simprocAttr,Tryz.ntmps73,len,sl];exact W.done (Q0.ret (v:=w) rfl (hw.frz _) hc)
theorem Qwg{bv wv:V}(g:Get):frz g depth (.func (.func 71) [] [.iptr [bv,wv] 0])=some (.func (.func 71) [] [.iptr [bv,wv] 0]):=rfl
theorem Q66{bv wv:V}{bl:List (List UInt8)}{wl:List (Int×List UInt8)}(hb:Z2 bv bl)(hw:Jh wv wl):
 Fz Tp Qg 71 [.iptr [bv,wv] 0] fun x=>x= .agg [bv,wv]:=by
 refine Zm Tryz.func71 rfl ?_;have fd:=Ks hb hw;obtain⟨bcs,hbc,hbv⟩:=hb;obtain⟨wcs,hwc,hwv⟩:=hw;have sb:=Q4 hbv;have sw:=Q4 hwv;simp only[wX,↓Qc,simprocAttr,Tryz.ntmps71,sb,sw];exact W.done (Q0.ret (v:= .agg [bv,wv]) rfl (fd _) rfl)
theorem Qyy{bv wv:V}{bl:List (List UInt8)}{wl:List (Int×List UInt8)}(hb:Z2 bv bl)(hw:Jh wv wl)(b1:bl.length<=Y4)(b2:wl.length<=Y4)(is:Bool):
 Fz Tp Qg 31 [.agg [bv,wv],.bool is,.func (.func 71) [] [.iptr [bv,wv] 0]] fun x=>(∃e:Int,x= .tuple [.agg [.nS,.nS],.int .i64 e]/\e≠0)\/x= .tuple [.agg [bv,wv],.int .i64 0]/\is=true/\Jn bl wl=true:=by
 refine Zm Tryz.func31 rfl ?_;have fd:=Ks hb hw (fun _ _=>none);obtain⟨m,rfl,hm⟩:=(Qd5 bv wv bl wl hb hw b1 b2).op (by rfl) (Qa fd rfl);have hm1:∀s H,_:=fun s H=>hm 31 0 s H rfl;have hb' :=hb;have hw' :=hw;obtain⟨bcs,hbc,hbv⟩:=hb';obtain⟨wcs,hwc,hwv⟩:=hw';have sb:=Q4 hbv;have sw:=Q4 hwv;cases ok:Jn bl wl
 . rw[ok] at hm1;simp only[okE] at hm1;simp only[wX,↓Qc,simprocAttr,Tryz.ntmps31,sb,sw,hm1];exact W.done (Q0.ret (v:= .tuple [.agg [.nS,.nS],.int .i64 8]) rfl rfl (.inl ⟨8,rfl,by decide⟩))
 . rw[ok] at hm1;simp only[okE] at hm1;cases is
   . simp only[wX,↓Qc,simprocAttr,Tryz.ntmps31,sb,sw,hm1];exact W.done (Q0.ret (v:= .tuple [.agg [.nS,.nS],.int .i64 2]) rfl rfl (.inl ⟨2,rfl,by decide⟩))
   . obtain⟨m,rfl,hm⟩:=(Q66 hb hw).op (by rfl) (Qa rfl rfl);have hm2:∀s H,_:=fun s H=>hm 31 0 s H rfl;simp only[wX,↓Qc,simprocAttr,Tryz.ntmps31,sb,sw,hm1,hm2];exact W.done (Q0.ret (v:= .tuple [.agg [bv,wv],.int .i64 0]) rfl (K3 (Qa (Qei (Qa (hbv.frz 9) (Qa (hwv.frz 9) rfl))) (Qa rfl rfl))) (.inr (by first|rfl|exact⟨rfl,rfl,rfl⟩|exact⟨rfl,rfl,ok⟩)))
def RWrite(bl:List (List UInt8))(wl:List (Int×List UInt8))(a:Int)(b:List UInt8)(x:V):Prop:=(∃e:Int,x= .tuple [.agg [.nS,.nS],.int .i64 e]/\e≠0)\/∃bv wv:V,x= .tuple [.agg [bv,wv],.int .i64 0]/\Z2 bv bl/\Jh wv (wl++[(a,b)])/\Jn bl (wl++[(a,b)])=true/\0<=a/\a<256/\b.length=256
theorem Q1y{a:Int}(ha: -9223372036854775808<=a/\a<=9223372036854775807)(h:Qdz a=true):0<=a/\a<256:=by simp only[Qdz,decide_eq_true_eq,IntKind.wrap,IntKind.bits,IntKind.signed,Zqy,Zn5,if_false] at h;omega
theorem Q1h{bl:List (List UInt8)}{wl:List (Int×List UInt8)}{a:Int}{b:List UInt8}(ok:Jn bl wl=true)(hn:wl.length≠4096)(ha:Qdz a=true)(hb:b.length=256):Jn bl (wl++[(a,b)])=true:=by simp only[Jn,Zok,decide_eq_true_eq] at ok⊢;obtain⟨⟨⟨k1,k2⟩,k3⟩,k4⟩:=ok;refine⟨⟨⟨k1,by rw[Zom];simp only[Zp9,Zpt];omega⟩,k3⟩,?_⟩;rw[Zqf,k4];simp[Qdd,ha,Xy,hb]
theorem Q7s(a:Int)(b:List UInt8)(f:Bool):∀g,Qk g 2 (.iS [.int .i64 a,.iS (Qb b) 256 f] 1 true)=some ([.int .i64 a,.iS (Qb b) 256 f],1):=fun g=>rfl
theorem Qpv{g:Get}{m:Nat}:∀{l:List (Int×List UInt8)} {cs:List V},Qcl cs l->Q5 (frz g (m+1)) cs=some cs
 |[],cs,h=>by
  have:cs=[]:=h;subst this;rfl
 |x::l,cs,⟨u,d,e,h1,h2⟩=>by
  subst e;exact Qa rfl (Qa (Qw.frz h1 m) (Qpv h2))
theorem frz_gw{g:Get}{bv:V}{cs bcs:List V}{l:List (Int×List UInt8)}{f s n k:Nat}(hb:Qw 1 bv bcs k)(h:Qcl cs l):frz g depth (.agg [bv,.gS f s cs n 2])=some (.agg [bv,.iS cs n false]):=by
 show Option.map V.agg (Q5 (AM.frz g 11) [bv,.gS f s cs n 2])=_;have e:AM.frz g 11 (.gS f s cs n 2)=some (.iS cs n false):=by show(Q5 (frz g 10) cs).map _=_;rw[Qpv (m:=9) h];rfl
 rw[Qa (hb.frz 10) (Qa e rfl)];rfl
theorem Qnc{bv wv:V}{bl:List (List UInt8)}{wl:List (Int×List UInt8)}(hb:Z2 bv bl)(hw:Jh wv wl)(b1:bl.length<=Y4)(b2:wl.length<=Y4)(w0:∀w∈wl,-9223372036854775808<=w.1/\w.1<=9223372036854775807)(a:Int)(ha: -9223372036854775808<=a/\a<=9223372036854775807){v:V}{b:List UInt8}(hv:Qe v b):
 Fz Tp Qg 30 [.agg [bv,wv],.int .i64 a,v] (RWrite bl wl a b):=by
 refine Zm Tryz.func30 rfl ?_;have fd:=Ks hb hw (fun _ _=>none);obtain⟨m,rfl,hm⟩:=(Qns a).op (by rfl) rfl;have hm1:∀s H,_:=fun s H=>hm 30 0 s H rfl;obtain⟨m,hr,hm⟩:=(Qyy hb hw b1 b2 (Qdz a)).op (by rfl) (Qa fd (Qa rfl (Qa (Qwg _) rfl)));have hm2:∀s H,_:=fun s H=>hm 30 0 s H rfl;obtain⟨bcs,hbc,hbv⟩:=id hb;obtain⟨wcs,hwc,hwv⟩:=id hw;have sb:=Q4 hbv;have sw:=Q4 hwv;have pb:=Qad hbv;have pw:=Qad hwv;have sv:=Q4 hv;have len:=hv.len Zu0;have lenw:=hwv.len Zu5;rcases hr with⟨e,rfl,he⟩|⟨rfl,his,ok⟩
 . have c1:(e !=0)=true:=by simpa using he
   simp only[wX,↓Qc,simprocAttr,Tryz.ntmps30,sb,sw,sv,pb,pw,hm1,hm2];refine W.opsT (by kernel_rfl) ?_;simp only[wX,↓Qc,simprocAttr,c1,sb,sw,sv,pb,pw];exact W.done (Q0.ret (v:= .tuple [.agg [.nS,.nS],.int .i64 e]) rfl rfl (.inl ⟨e,rfl,he⟩))
 . cases c2:((b.length:Int) !=256)
   case true=>simp only[wX,↓Qc,simprocAttr,Tryz.ntmps30,sb,sw,sv,pb,pw,hm1,hm2];refine W.opsT (by kernel_rfl) ?_;simp only[wX,↓Qc,simprocAttr,sb,sw,sv,pb,pw,len,c2];exact W.done (Q0.ret (v:= .tuple [.agg [.nS,.nS],.int .i64 3]) rfl rfl (.inl ⟨3,rfl,by decide⟩))
   have hbl:b.length=256:=by have:=c2;simp only[bne_eq_false_iff_eq] at this;omega
   obtain⟨fb,rfl⟩:=Qcu hv hbl;cases c3:((wl.length:Int)==4096)
   case true=>simp only[wX,↓Qc,simprocAttr,Tryz.ntmps30,sb,sw,sv,pb,pw,hm1,hm2];refine W.opsT (by kernel_rfl) ?_;simp only[wX,↓Qc,simprocAttr,sb,sw,sv,pb,pw,len,lenw,c2,c3];exact W.done (Q0.ret (v:= .tuple [.agg [.nS,.nS],.int .i64 9]) rfl rfl (.inl ⟨9,rfl,by decide⟩))
   have hn:wl.length≠4096:=fun h=>by rw[h] at c3;exact absurd c3 (by decide)
   have ok2:=Q1h ok hn his hbl;have hwl:wl.length<4096:=by have:=ok;simp only[Jn,Zok,decide_eq_true_eq] at this;omega
   obtain⟨q1,q2⟩:=Q1y ha his;obtain⟨m,hcl,hm⟩:=(Q79 wv wcs wl.length hwv).op (by rfl) (Qa (hwv.frz _) rfl);have hm3:∀s H,_:=fun s H=>hm 30 0 s H rfl;have hbb:Qe (.iS (Qb b) 256 fb) b:=by have:=Qe.mk b fb;rwa[hbl] at this
   have hwaits:Qw 2 (.iS (wcs++[.int .i64 a,.iS (Qb b) 256 fb]) (wl.length+1) false) (wcs++[.int .i64 a,.iS (Qb b) 256 fb]) (wl.length+1):=⟨by rw[Zom,hwv.1];simp only[Zp9,Zpt];omega,.inr ⟨false,rfl⟩⟩;have hw2:Jh (.iS (wcs++[.int .i64 a,.iS (Qb b) 256 fb]) (wl.length+1) false) (wl++[(a,b)]):=⟨_,Qfs (w:=(a,b)) hwc hbb,by rw[Zom];exact hwaits⟩;obtain⟨m,⟨bv',wv',rfl,h1,h2⟩,hm⟩:=(Qyp hb hw2 ok2).op' (args:=[.agg [bv,.gS 0 42 (wcs++[.int .i64 a,.iS (Qb b) 256 fb]) (wl.length+1) 2]]) (by rfl) (Qa (frz_gw hbv (Qfs (w:=(a,b)) hwc hbb)) rfl);have hm4:∀s H,_:=fun s H=>hm 30 0 s H rfl;obtain⟨_,_,e1⟩:=id h1;obtain⟨_,_,e2⟩:=id h2;have cb:=Q7 hbv;have t5:=Q7 e1;have t6:=Q7 e2;have t1:=Q4 e1;have t2:=Q4 e2;have t3:=Qad e1;have t4:=Qad e2;have mt41:Qg.mt 30 41=false:=B2 (by decide) rfl;have mt42:Qg.mt 30 42=false:=B2 (by decide) rfl;rcases hcl with⟨rfl,rfl,h0⟩|rfl
   . obtain rfl:wl=[]:=Zoz h0;have ap:Qr Tp (Qg.mt 30) 0 (Qd [[(6,.cells [.nS,.nS]),(8,.cells [bv,wv])]]) (some 42) 23 23 .nS (.iS [.int .i64 a,.iS (Qb b) 256 fb] 1 true)=
      some (.val (.gS 0 42 [.int .i64 a,.iS (Qb b) 256 fb] 1 2) (some (0,42,.grow 1))):=by
      rw[Qcp Zu5 Qcm byW Qnm rfl Zu5 (Q7s a b fb _) (by decide) (by decide),Kr mt42 rfl rfl]
     simp only[Zpu,Zpt,Zod] at hm4;simp only[wX,↓Qc,simprocAttr,Tryz.ntmps30,sb,sw,sv,pb,pw,hm1,hm2];refine W.opsT (by kernel_rfl) ?_;simp only[wX,↓Qc,simprocAttr,sb,sw,sv,pb,pw,len,lenw,c2,c3,hm3,mt41,Zu5,Qcm,Qnm,Qv,ap,hm4,cb,t5,t6,t1,t2,t3,t4];refine W.opsT (by kernel_rfl) ?_;simp only[wX,↓Qc,simprocAttr,sb,sw,sv,pb,pw,t5,t6,t1,t2,t3,t4];exact W.done (Q0.ret (v:= .tuple [.agg [bv',wv'],.int .i64 0]) rfl (K3 (Qa (Qei (Qa (e1.frz 9) (Qa (e2.frz 9) rfl))) (Qa rfl rfl))) (.inr ⟨bv',wv',rfl,h1,h2,ok2,q1,q2,hbl⟩))
   . have ap:Qr Tp (Qg.mt 30) 0 (Qd [[(6,.cells [.nS,.nS]),(8,.cells [bv,wv])]]) (some 42) 23 23 (.iS wcs wl.length true) (.iS [.int .i64 a,.iS (Qb b) 256 fb] 1 true)=
      some (.val (.gS 0 42 (wcs++[.int .i64 a,.iS (Qb b) 256 fb]) (wl.length+1) 2) (some (0,42,.grow (wl.length+1)))):=by
      rw[Qcf Zu5 Qcm byW Qnm rfl Zu5 (Q7s a b fb _) (by decide) hwv.1 (Zw (by omega) (by omega)),Kr mt42 rfl rfl]
     simp only[wX,↓Qc,simprocAttr,Tryz.ntmps30,sb,sw,sv,pb,pw,hm1,hm2];refine W.opsT (by kernel_rfl) ?_;simp only[wX,↓Qc,simprocAttr,sb,sw,sv,pb,pw,len,lenw,c2,c3,hm3,mt41,Zu5,Qcm,Qnm,Qv,ap,hm4,cb,t5,t6,t1,t2,t3,t4];refine W.opsT (by kernel_rfl) ?_;simp only[wX,↓Qc,simprocAttr,sb,sw,sv,pb,pw,t5,t6,t1,t2,t3,t4];exact W.done (Q0.ret (v:= .tuple [.agg [bv',wv'],.int .i64 0]) rfl (K3 (Qa (Qei (Qa (e1.frz 9) (Qa (e2.frz 9) rfl))) (Qa rfl rfl))) (.inr ⟨bv',wv',rfl,h1,h2,ok2,q1,q2,hbl⟩))
theorem bybB:(match byt Tp 5 with|some b=>decide (b<=128)|none=>false)=true:=by kernel_rfl
theorem bycB:∃b,byt Tp 5=some b/\b<=128:=by
 have h:=bybB;cases hb:byt Tp 5 with
 |none=>rw[hb] at h;cases h
 |some b=>rw[hb] at h;exact⟨b,rfl,of_decide_eq_true h⟩
theorem Zc3(v:V)(cs:List V)(n:Nat)(hv:Qw 1 v cs n)(hn:n<=65536)(hsc:cs.all V.scalar=true):
 ∃r K',Qn Tp Qg (some 45) [v] []=some (r,K')/\((v= .nS/\n=0/\cs=[]/\r= .ret .nS)\/∃f s cap,v= .iS cs n f/\r= .ret (.mS 0 s 0 n cap 1)/\Qd K' 0 s=some (.cells cs)):=by
 have key:CW Tp Qg 45 [v] [] fun r K' =>((v= .nS/\n=0/\cs=[]/\r= .ret .nS)\/∃f s cap,v= .iS cs n f/\r= .ret (.mS 0 s 0 n cap 1)/\Qd K' 0 s=some (.cells cs)):=by
  refine Zu Tryz.func45 rfl ?_;obtain⟨hlen,⟨rfl,h0⟩|⟨f,rfl⟩⟩:=id hv
  . have e:∀p q,Zq Tp .eql 26 p q .nS .nS=some (.bool true):=fun p q=>rfl;simp only[wX,↓Qc,simprocAttr,Zu12,e];exact W.done (End.ret (v:= .nS) rfl (.inl (by
     have hcs:cs=[]:=Zoz (by rw[hlen,h0,Zq9])
     first|exact⟨rfl,h0,hcs,rfl⟩|exact⟨h0,hcs,rfl⟩)))
  . have sc:∀g,Qk g 1 (.iS cs n f)=some (cs,n):=fun g=>Qw.sc hv;have mt5:Qg.mt 45 5=true:=rfl;have mt7:Qg.mt 45 7=true:=rfl;obtain⟨b,hb,hb2⟩:=bycB;have g5:Qd [[(5,O.cells [])]] 0 5=some (.cells []):=rfl;by_cases h0:n=0
    . subst h0;have hcs:cs=[]:=Zoz (by rw[hlen,Zq9]);subst hcs;have ap:Qr Tp (Qg.mt 45) 0 (Qd [[(5,O.cells [])]]) (some 7) 26 26 (.mS 0 5 0 0 (some 0) 1) (.iS [] 0 f)=some (.val (.mS 0 5 0 0 (some 0) 1) none):=
       Qbe Zu0 sz5 hb zc5 rfl Zu0 rfl (sc _)
      simp only[wX,↓Qc,simprocAttr,Zu12,Jj Zu0,mt5,Qv,ap,Zu0];refine W.done (End.ret (v:= .mS 0 5 0 0 (some 0) 1) rfl (.inr ⟨f,5,some 0,rfl,rfl,?_⟩));rw[Zj rfl];rfl
    . have n7:Qd [[(5,O.cells [])]] 0 7=none:=rfl;have ap:Qr Tp (Qg.mt 45) 0 (Qd [[(5,O.cells [])]]) (some 7) 26 26 (.mS 0 5 0 0 (some 0) 1) (.iS cs n f)=some (.val (.mS 0 7 0 n none 1) (some (0,7,.cells cs))):=by
       obtain⟨m,rfl⟩:∃m,n=m+1:=⟨n-1,by omega⟩;have r1:J4 (0+(m+1)) b=true:=Zw (Zn7 (Zra (by omega:0+(m+1)<=65536) hb2) (by decide)) (by omega);have zl:zeroCells Tp 5=some _:=zc5;have gm:=Qav (mt:=Qg.mt 45) (g:=Qd [[(5,O.cells [])]]) (fr:=0) (d:=7) (cs:=cs) (m:=m+1) (n:=1) (chk:=cs) mt7 hsc n7;simp only[Qr,Zu0,sz5,hb,zl,Ji,sc,appendTo,g5,r1];simpa using gm
      simp only[wX,↓Qc,simprocAttr,Zu12,Jj Zu0,mt5,Qv,ap,Zu0];refine W.done (End.ret (v:= .mS 0 7 0 n none 1) rfl (.inr ⟨f,7,none,rfl,rfl,?_⟩));rw[Zj rfl];rfl
 obtain⟨r,K',h,h2⟩:=key;exact⟨r,K',h,h2⟩
theorem clB_op(v:V)(cs:List V)(n:Nat)(hv:Qw 1 v cs n)(hn:n<=65536)(hsc:cs.all V.scalar=true)(hp:Qu cs=true){fr d:Nat}{H:Heap}(hd:Qd H fr d=none):
 ∃w o,callOp Qg (Qn Tp Qg) 112 fr (some d) 45 [v] H=some (.ret w,hset H fr d o)/\Bj fr d 1 n cs w o/\((v= .nS/\n=0/\cs=[]/\w= .nS/\o= .dead)\/∃f cap,v= .iS cs n f/\w= .mS fr d 0 n cap 1/\o= .cells cs):=
 Qoh hp rfl (Zc3 v cs n hv hn hsc) (Qa (hv.frz 11) rfl) (fn:=112) rfl rfl hd
def Qn8:List UInt8->Nat->Option Nat
 |[],_=>none
 |b::r,a=>if b=0 then some a else Qn8 r (a+1)
theorem Qwk:∀(l:List UInt8) (a p:Nat),Qn8 l a=some p->a<=p/\p<a+l.length/\l[p-a]?=some 0
 |[],a,p,h=>by cases h
 |b::r,a,p,h=>by
  simp only[Qn8] at h;split at h
  . rename_i hb;cases h;simp[hb]
  . have:=Qwk r (a+1) p h;obtain⟨h1,h2,h3⟩:=this;refine⟨by omega,by simp;omega,?_⟩;rw[show p-a=(p-(a+1))+1 by omega];simpa using h3
theorem Zem(v:V)(l:List UInt8)(hv:Qe v l):
 CW Tp Qg 166 [v] [[]] fun r H' =>r= .ret (.func (.func 221) [] [.ptr 1 3 0,.ptr 1 1 0])/\H' =[[],[(1,.cells [v]),(3,.cells [.int .i64 (-1)])]]:=by
 refine Zu Tryz.func166 rfl ?_;have c1:v.cells=some [v]:=Q7 hv;simp only[wX,↓Qc,simprocAttr,Tryz.ntmps166,c1];refine W.done (End.ret rfl ?_);rw[Zj (by simp[V.refs,Qi])];exact⟨rfl,rfl⟩
theorem Zd9(v:V)(l:List UInt8)(hv:Qe v l)(hl:l.length<=10000):
 CW Tp Qg 221 [.ptr 1 3 0,.ptr 1 1 0] [[],[(1,.cells [v]),(3,.cells [.int .i64 (-1)])]] fun r K' =>match Qn8 l 0 with
  |some p=>r= .ret (.int .i64 p)/\K' =[[],[(1,.cells [v]),(3,.cells [.int .i64 p])]]
  |none=>r= .ret (.int .i64 (-1))/\K' =[[],[(1,.cells [v]),(3,.cells [.int .i64 l.length])]]:=by
 refine Zu Tryz.func221 rfl ?_;have len:=hv.len Zu0;have sv:=Q4 hv;have pop:∀i x:Int,Yk 2 (.int .i64 x) [[],[(1,O.cells [v]),(3,.cells [.int .i64 i])],[]]=[[],[(1,O.cells [v]),(3,.cells [.int .i64 i])]]:=fun i x=>by have nr:=hv.noRefs;exact Zf (H:=[[],[(1,O.cells [v]),(3,.cells [.int .i64 i])]]) (G:=[[]]) (v:= .int .i64 x) rfl (by simp[WF,Q2,Zg,O.refs,Qi,nr,V.refs])
 simp only[wX,↓Qc,simprocAttr,Tryz.ntmps221,sv];refine W.ul ?_;refine W.loopS (kt:=[0,1]) rfl (fun i:Nat=>Q24 (.ptr 1 3 0) (.ptr 1 1 0)) (fun i=>[[],[(1,.cells [v]),(3,.cells [.int .i64 i])],[]]) (fun i=>i<=l.length/\Qn8 (l.drop i) i=Qn8 l 0) (fun i=>l.length-i) ?_ 0 ⟨by omega,rfl⟩ rfl rfl;rintro i ⟨hi,hs⟩;simp only[Q24];by_cases h:i<l.length
 . have c1:decide ((i:Int)<l.length)=true:=Zrh (by omega);have at1:=hv.at (k:= .i64) Zu0 sz5 (by decide) (i:=(i:Int)) (by omega) (by omega);have ld:(Qb l)[(i:Int).toNat]?=some (.int .u8 (l[i].toNat:Nat)):=by
    simp[Qb,h]
   have w1:(IntKind.i64).wrap ((i:Int)+1)=((i+1:Nat):Int):=by rw[wrap_i64]<;>omega
   have hd:=Zqt h;rw[hd,Qn8] at hs;simp only[wX,↓Qc,simprocAttr,sv,len,c1,at1,ld];refine W.ite (fun q1=>?_) (fun q1=>?_)
   . have q2:l[i]=0:=by
      have:(l[i].toNat:Int)=0:=by simpa using q1
      exact UInt8.toNat_inj.1 (by simpa using this)
     rw[if_pos q2] at hs;simp only[wX,↓Qc,simprocAttr,sv];refine W.done ?_;simp only[wA,↓Qc,simprocAttr];refine W.done (End.ret rfl ?_);rw[<-hs];exact⟨rfl,pop i i⟩
   . have q2:l[i]≠0:=fun e=>by rw[e] at q1;cases q1
     rw[if_neg q2] at hs;simp only[wX,↓Qc,simprocAttr,sv,w1];exact W.done ⟨i+1,rfl,rfl,⟨by omega,hs⟩,by omega⟩
 . have c1:decide ((i:Int)<l.length)=false:=Zri (by omega);obtain rfl:i=l.length:=by omega
   rw[List.drop_length,Qn8] at hs;simp only[wX,↓Qc,simprocAttr,sv,len,c1];refine W.done ?_;simp only[wA,↓Qc,simprocAttr];refine W.done (End.ret rfl ?_);rw[<-hs];exact⟨rfl,pop _ _⟩
def RTake(l:List UInt8)(x:V):Prop:=(∃e:Int,x= .tuple [.nS,.int .i64 0,.int .i64 e]/\e≠0)\/∃(p:Nat) (w:V),x= .tuple [w,.int .i64 p,.int .i64 0]/\Yx l=true/\Qn8 l 0=some p/\p<l.length/\Qe w (l.set p 1)
theorem Zb3(v:V)(l:List UInt8)(hv:Qe v l):Fz Tp Qg 112 [v] (RTake l):=by
 refine Fz.of_cw ?_;refine Zu Tryz.func112 rfl ?_;obtain⟨m,rfl,hm⟩:=(Qi4 v l hv).op (by rfl) (Qa (hv.frz _) rfl);have hm1:∀s H,_:=fun s H=>hm 112 0 s H rfl;have sv:=Q4 hv;cases hk:Yx l
 . rw[hk] at hm1;simp only[Zn5,if_false] at hm1;simp only[wX,↓Qc,simprocAttr,Tryz.ntmps112,sv,hm1];exact W.done (End.ret (v:= .tuple [.nS,.int .i64 0,.int .i64 8]) rfl ⟨_,rfl,_,rfl,.inl ⟨8,rfl,by decide⟩⟩)
 rw[hk] at hm1;simp only[if_true] at hm1;have hl:l.length=256:=Qe0 hk;obtain⟨f,rfl⟩:=Qcu hv hl;obtain⟨r1,H1,f1,rfl,rfl⟩:=Zem _ l hv;have f1' :∀d,_:=fun d=>Za (fn:=112) (fr:=0) (d:=d) (pol:=Qg) rfl rfl rfl f1;obtain⟨r2,H2,f2,n2⟩:=Zd9 _ l hv (by omega);have f2' :∀d,_:=fun d=>Za (fn:=112) (fr:=0) (d:=d) (pol:=Qg) rfl rfl rfl f2;cases hs:Qn8 l 0 with
 |none=>
  rw[hs] at n2;obtain⟨rfl,rfl⟩:=n2;simp only[wX,↓Qc,simprocAttr,Tryz.ntmps112,sv,hm1,f1',f2'];exact W.done (End.ret (v:= .tuple [.nS,.int .i64 0,.int .i64 9]) rfl ⟨_,rfl,_,rfl,.inl ⟨9,rfl,by decide⟩⟩)
 |some p=>
  rw[hs] at n2;obtain⟨rfl,rfl⟩:=n2;have hp:p<l.length:=by have:=Qwk l 0 p hs;omega
  have c2:decide ((p:Int)<0)=false:=Zri (by omega);obtain⟨w,o,f3,-,hw⟩:=clB_op _ (Qb l) l.length hv (by omega) (Z8 l) (Ja l) (fr:=0) (d:=17) (H:=[[],[(1,O.cells [V.iS (Qb l) 256 f]),(3,O.cells [V.int IntKind.i64 p])]]) rfl;rcases hw with⟨h0,_⟩|⟨f9,cap,_,rfl,rfl⟩
  . cases h0
  have at1:Qm Tp 26 (.mS 0 17 0 l.length cap 1) (.int .i64 p)=some (.ptr 0 17 p):=by
   have at1:=Qir (P:=Tp) Zu0 sz5 (f:=0) (s:=17) (o:=0) (len:=l.length) (cap:=cap) (k:= .i64) (i:=(p:Int)) (by omega) (by omega);have st:(0+(p:Int).toNat*1)=p:=by omega
   rw[st] at at1;exact at1
  have hs1' :splice (Qb l) p [.int .u8 1]=Qb (l.set p 1):=Qef l p 1 hp;have c3:(p+1<=(Qb l).length)=True:=eq_true (by rw[Qy];omega);simp only[wX,↓Qc,simprocAttr,Tryz.ntmps112,sv,hm1,f1',f2',c2,f3];simp only[wA,↓Qc,simprocAttr,ta,wH,wZ,at1,c3,hs1'];refine W.done (End.ret (v:= .tuple [.mS 0 17 0 l.length cap 1,.int .i64 p,.int .i64 0]) rfl ⟨_,rfl,.tuple [.iS (Qb (l.set p 1)) (l.set p 1).length (cap==some l.length),.int .i64 p,.int .i64 0],?_,.inr ⟨p,_,rfl,hk,hs,hp,Qe.mk _ _⟩⟩);rw[Zj (by simp[V.refs,Qi])];have el:(l.set p 1).length=l.length:=Zql;have e:((Qb (l.set p 1)).drop 0).take (l.length*1)=Qb (l.set p 1):=by rw[Zpe,Zpf (by rw[Qy,el];omega)]
  have hf:=Qbt (g:=Qd [[(17,O.cells (Qb (l.set p 1)))],[(1,O.cells [V.iS (Qb l) 256 f]),(3,O.cells [V.int IntKind.i64 p])]]) (f:=0) (s:=17) (o:=0) (len:=l.length) (esz:=1) (cap:=cap) (xs:=Qb (l.set p 1)) (m:=9) rfl (by rw[Qy,el];omega) (by rw[e];exact Qdk _ _ (Qfm _));rw[e] at hf;rw[el];exact K3 (Qa hf (Qa rfl (Qa rfl rfl)))
abbrev Qme(at_ b i t s:Int):V:= .agg [.int .i64 at_,.int .u32 b,.int .u32 i,.int .u32 t,.int .u32 s]
def RStPut(bl:List (List UInt8))(wl:List (Int×List UInt8))(sp:List UInt8)(e c b i t:Int)(d:List UInt8)(x:V):Prop:=
 (∃er:Int,x= .tuple [Yu .nS .nS .nS 0 0,Qme 0 0 0 0 0,.int .i64 er]/\er≠0)\/
 ∃(bv wv sv:V) (p:Nat) (s:Int),x= .tuple [Yu bv wv sv e c,Qme p b i t s,.int .i64 0]/\Z2 bv bl/\Jh wv (wl++[((p:Int),d)])/\Qe sv (sp.set p 1)/\Jn bl (wl++[((p:Int),d)])=true/\Yx sp=true/\Qn8 sp 0=some p/\d.length=256/\s=(Kk d).a
theorem Q9n{bv wv sv:V}{bl wl sp}(h:Xn bv wv sv bl wl sp)(e c b i t:Int){v:V}{d:List UInt8}(hv:Qe v d):
 Fz Tp Qg 65 [Yu bv wv sv e c,Qme 0 b i t 0,v] (RStPut bl wl sp e c b i t d):=by
 refine Zm Tryz.func65 rfl ?_;obtain⟨_,_,h1⟩:=id h.blocks;obtain⟨_,_,h2⟩:=id h.waits;have a1:=Q4 h1;have a2:=Q4 h2;have a3:=Q4 h.space;have a4:=Q7 h1;have a5:=Q7 h2;have a6:=Q7 h.space;have sv4:=Q4 hv;obtain⟨m,ht,hm⟩:=(Zb3 sv sp h.space).op (by rfl) (Qa (h.space.frz _) rfl);have hm1:∀s H,_:=fun s H=>hm 65 0 s H rfl;rcases ht with⟨er,rfl,he⟩|⟨p,sv',rfl,hok,hsc,hp,hsv⟩
 . have c1:(er !=0)=true:=by simpa using he
   simp only[wX,↓Qc,simprocAttr,Tryz.ntmps65,a1,a2,a3,a4,a5,a6,sv4,hm1,c1];exact W.done (Q0.ret (v:= .tuple [Yu .nS .nS .nS 0 0,Qme 0 0 0 0 0,.int .i64 er]) rfl rfl (.inl ⟨er,rfl,he⟩))
 have hl:=Qe0 hok;have b1:=Q4 hsv;have b2:=Q7 hsv;obtain⟨m,hw,hm⟩:=(Qnc h.blocks h.waits h.b1 h.w1 h.w0 p (by omega) hv).op (by rfl) (Qa (Ks h.blocks h.waits _) (Qa rfl (Qa (hv.frz _) rfl)));have hm2:∀s H,_:=fun s H=>hm 65 0 s H rfl;rcases hw with⟨er,rfl,he⟩|⟨bv',wv',rfl,k1,k2,k3,k4,k5,k6⟩
 . have c1:(er !=0)=true:=by simpa using he
   simp only[wX,↓Qc,simprocAttr,Tryz.ntmps65,a1,a2,a3,a4,a5,a6,sv4,b1,b2,hm1,hm2,c1];exact W.done (Q0.ret (v:= .tuple [Yu .nS .nS .nS 0 0,Qme 0 0 0 0 0,.int .i64 er]) rfl rfl (.inl ⟨er,rfl,he⟩))
 obtain⟨m,rfl,hm⟩:=(Q91 v d hv (by omega)).op (by rfl) (Qa (hv.frz _) rfl);have hm3:∀s H,_:=fun s H=>hm 65 0 s H rfl;obtain⟨_,_,g1⟩:=id k1;obtain⟨_,_,g2⟩:=id k2;have d1:=Q4 g1;have d2:=Q4 g2;have d4:=Q7 g1;have d5:=Q7 g2;simp only[wX,↓Qc,simprocAttr,Tryz.ntmps65,a1,a2,a3,a4,a5,a6,sv4,b1,b2,d1,d2,d4,d5,hm1,hm2,hm3];refine W.opsT (by kernel_rfl) ?_;simp only[wX,↓Qc,simprocAttr,a1,a2,a3,a4,a5,a6,sv4,b1,b2,d1,d2,d4,d5,hm3];refine W.opsT (by kernel_rfl) ?_;simp only[wX,↓Qc,simprocAttr,a1,a2,a3,a4,a5,a6,sv4,b1,b2,d1,d2,d4,d5];refine W.done (Q0.ret (v:= .tuple [Yu bv' wv' sv' e c,Qme p b i t (Kk d).a,.int .i64 0]) rfl ?_ (.inr ⟨bv',wv',sv',p,_,rfl,k1,k2,hsv,k3,hok,hsc,k6,rfl⟩));exact K3 (Qa (Qei (Qa (g1.frz 9) (Qa (g2.frz 9) (Qa (hsv.frz 9) (Qa rfl (Qa rfl rfl)))))) (Qa rfl (Qa rfl rfl)))
def RSeal(x:V):Prop:=∃(w:V) (l:List UInt8) (t e:Int),x= .tuple [w,.int .u32 t,.int .i64 e]/\Qe w l/\(e=0->l.length=256)
theorem Zd7(kv bv:V)(k b:List UInt8)(iv:Int)(hk:Qe kv k)(hb:Qe bv b)(hkl:k.length<=100000)(hbl:b.length=256):Fz Tp Qg 64 [kv,.int .u32 iv,bv] RSeal:=by
 refine Zm Tryz.func64 rfl ?_;have s1:=Q4 hk;have s2:=Q4 hb;obtain⟨m,⟨v,e,rfl,hr⟩,hm⟩:=(Qr9 kv bv k b iv hk hb hbl).op (by rfl) (Qa (hk.frz _) (Qa rfl (Qa (hb.frz _) rfl)));have hm1:∀s H,_:=fun s H=>hm 64 0 s H rfl;rcases hr with⟨rfl,l,hl,ll⟩|⟨he,rfl⟩
 . obtain⟨m,hr,hm⟩:=(Q50 kv v k l iv hk hl hkl ll).op (by rfl) (Qa (hk.frz _) (Qa rfl (Qa (hl.frz _) rfl)));have hm2:∀s H,_:=fun s H=>hm 64 0 s H rfl;have s3:=Q4 hl;obtain⟨t,e,rfl⟩:=hr;simp only[wX,↓Qc,simprocAttr,Tryz.ntmps64,s1,s2,s3,hm1,hm2];exact W.done (Q0.ret (v:= .tuple [v,.int .u32 t,.int .i64 e]) rfl (K3 (Qa (hl.frz 10) (Qa rfl (Qa rfl rfl)))) ⟨v,l,t,e,rfl,hl,fun _=>ll⟩)
 . have c1:(e !=0)=true:=by simpa using he
   simp only[wX,↓Qc,simprocAttr,Tryz.ntmps64,s1,s2,hm1,c1];exact W.done (Q0.ret (v:= .tuple [.nS,.int .u32 0,.int .i64 e]) rfl rfl ⟨.nS,[],0,e,rfl,Qe.nil,fun h=>absurd h he⟩)
theorem Q8s{bv wv sv:V}{bl wl sp}(h:Xn bv wv sv bl wl sp)(e c b n:Int){kv dv:V}{k d:List UInt8}(hk:Qe kv k)(hd:Qe dv d):
 Fz Tp Qg 63 [Yu bv wv sv e c,.int .u32 b,.int .i64 n,.iS [kv,dv] 2 true] fun x=>∃er:Int,x= .int .i64 er/\(er=0->Bi (okE (Jn bl wl)) (Yx sp) e c=true/\1<=b/\b<=16777215/\(k.length:Int)=n/\d.length=256):=by
 refine Zm Tryz.func63 rfl ?_;obtain⟨_,_,h1⟩:=id h.blocks;obtain⟨_,_,h2⟩:=id h.waits;have a1:=Q4 h1;have a2:=Q4 h2;have a3:=Q4 h.space;have s1:=Q4 hk;have s2:=Q4 hd;have len1:=hk.len Zu0;have len2:=hd.len Zu0;obtain⟨m,rfl,hm⟩:=(Qxr h e c).op (by rfl) (Qa (Qbl h e c _) rfl);have hm1:∀s H,_:=fun s H=>hm 63 0 s H rfl;cases ok:Bi (okE (Jn bl wl)) (Yx sp) e c
 . rw[ok] at hm1;simp only[okE] at hm1;simp only[wX,↓Qc,simprocAttr,Tryz.ntmps63,a1,a2,a3,s1,s2,hm1];exact W.done (Q0.ret (v:= .int .i64 8) rfl rfl ⟨8,rfl,fun h=>absurd h (by decide)⟩)
 rw[ok] at hm1;simp only[okE] at hm1;cases c1:decide (b<1)
 case true=>simp only[wX,↓Qc,simprocAttr,Tryz.ntmps63,a1,a2,a3,s1,s2,hm1,c1];exact W.done (Q0.ret (v:= .int .i64 2) rfl rfl ⟨2,rfl,fun h=>absurd h (by decide)⟩)
 cases c2:decide (b>16777215)
 case true=>simp only[wX,↓Qc,simprocAttr,Tryz.ntmps63,a1,a2,a3,s1,s2,hm1,c1,c2];exact W.done (Q0.ret (v:= .int .i64 2) rfl rfl ⟨2,rfl,fun h=>absurd h (by decide)⟩)
 have p1:=of_decide_eq_false c1;have p2:=of_decide_eq_false c2;simp only[wX,↓Qc,simprocAttr,Tryz.ntmps63,a1,a2,a3,s1,s2,hm1,c1,c2];refine W.ul ?_;refine W.loopS (kt:=[2,23,24,25]) rfl (fun i:Nat=>Q9w (.int .i64 (if i=0 then n else 256)) (.iS [kv,dv] 2 true) (.int .i64 2) (.int .i64 i)) (fun _=>[[(4,.cells [bv,wv,sv,.int .u32 e,.int .u32 c])]]) (fun i=>i<=2/\(1<=i->(k.length:Int)=n)/\(2<=i->d.length=256)) (fun i=>2-i) ?_ 0 ⟨by omega,fun h=>absurd h (by omega),fun h=>absurd h (by omega)⟩ rfl rfl;rintro i ⟨hi,q1,q2⟩;simp only[Q9w];have hsl:Qw 1 (.iS [kv,dv] 2 true) [kv,dv] 2:=⟨rfl,.inr ⟨true,rfl⟩⟩;rcases(by omega:i=0\/i=1\/i=2) with rfl|rfl|rfl
 . have at1:Qm Tp 22 (.iS [kv,dv] 2 true) (.int .i64 0)=some (.iptr [kv,dv] 0):=hsl.at (k:= .i64) Zu1 Qau (by decide) (i:=0) (by omega) (by omega);have c0:decide ((0:Int)<2)=true:=rfl;have ld:([kv,dv]:List V)[0]?=some kv:=rfl;have w1:(IntKind.i64).wrap ((0:Int)+1)=(1:Int):=rfl;have c4:(.int .i64 (if(0:Nat)=0 then n else 256):V)= .int .i64 n:=rfl;rw[c4];cases c3:((k.length:Int) !=n)
   . simp only[wX,↓Qc,simprocAttr,s1,s2,c0,at1,ld,len1,c3,w1];exact W.done ⟨1,rfl,rfl,⟨by omega,fun _=>by simpa using c3,fun h=>absurd h (by omega)⟩,by omega⟩
   . simp only[wX,↓Qc,simprocAttr,s1,s2,c0,at1,ld,len1,c3];refine W.done ?_;simp only[wA,↓Qc,simprocAttr];exact W.done (Q0.ret (v:= .int .i64 3) rfl rfl ⟨3,rfl,fun h=>absurd h (by decide)⟩)
 . have at1:Qm Tp 22 (.iS [kv,dv] 2 true) (.int .i64 1)=some (.iptr [kv,dv] 1):=hsl.at (k:= .i64) Zu1 Qau (by decide) (i:=1) (by omega) (by omega);have c0:decide ((1:Int)<2)=true:=rfl;have ld:([kv,dv]:List V)[1]?=some dv:=rfl;have w1:(IntKind.i64).wrap ((1:Int)+1)=(2:Int):=rfl;have c4:(.int .i64 (if(1:Nat)=0 then n else 256):V)= .int .i64 256:=rfl;rw[c4];cases c3:((d.length:Int) !=256)
   . simp only[wX,↓Qc,simprocAttr,s1,s2,c0,at1,ld,len2,c3,w1];have c5:d.length=256:=by have:=c3;simp only[bne_eq_false_iff_eq] at this;omega
     exact W.done ⟨2,rfl,rfl,⟨by omega,fun _=>q1 (by omega),fun _=>c5⟩,by omega⟩
   . simp only[wX,↓Qc,simprocAttr,s1,s2,c0,at1,ld,len2,c3];refine W.done ?_;simp only[wA,↓Qc,simprocAttr];exact W.done (Q0.ret (v:= .int .i64 3) rfl rfl ⟨3,rfl,fun h=>absurd h (by decide)⟩)
 . have c0:decide ((2:Int)<2)=false:=rfl;simp only[wX,↓Qc,simprocAttr,s1,s2,c0];refine W.done ?_;simp only[wA,↓Qc,simprocAttr];exact W.done (Q0.ret (v:= .int .i64 0) rfl rfl ⟨0,rfl,by first|exact fun _=>⟨by omega,by omega,q1 (by omega),q2 (by omega)⟩|exact⟨by omega,by omega,q1 (by omega),q2 (by omega)⟩⟩)
theorem Quc(e:Int)(h:1<=e/\e<=65535):∀p q,Zq Tp .shl 27 p q (.int .u32 e) (.int .u64 16)=some (.int .u32 (e*65536)):=fun p q=>by
 obtain⟨n,rfl⟩:∃n:Nat,e=n:=⟨e.toNat,by omega⟩;have:=shlU n 16 (by decide);have e1:Nat.mod (Nat.shiftLeft n 16) 4294967296=n*65536:=by show(n<<<16)%4294967296=_;rw[Nat.shiftLeft_eq];omega
 rw[e1] at this;exact this
theorem iv_or(e c:Int)(h:1<=e/\e<=65535)(hc:0<=c/\c<65536):∀p q,Zq Tp .or 27 p q (.int .u32 (e*65536)) (.int .u32 c)=some (.int .u32 (e*65536+c)):=fun p q=>by
 obtain⟨n,rfl⟩:∃n:Nat,e=n:=⟨e.toNat,by omega⟩;obtain⟨m,rfl⟩:∃m:Nat,c=m:=⟨c.toNat,by omega⟩;have:=orU (n*65536) m (by omega) (by omega);have e1:Nat.lor (n*65536) m=n*65536+m:=by show n*65536|||m=_;have h2:=Nat.shiftLeft_add_eq_or_of_lt (b:=m) (i:=16) (by omega) n;rw[Nat.shiftLeft_eq] at h2;exact h2.symm
 rw[e1] at this;exact this
def Zbv(bl:List (List UInt8))(wl:List (Int×List UInt8))(sp:List UInt8)(e c b:Int)(x:V):Prop:=
 (∃er:Int,x= .tuple [Yu .nS .nS .nS 0 0,Qme 0 0 0 0 0,.int .i64 er]/\er≠0)\/
 ∃(bv wv sv:V) (p:Nat) (t s:Int) (d:List UInt8),x= .tuple [Yu bv wv sv e (c+1),Qme p b (e*65536+(c+1)) t s,.int .i64 0]/\Z2 bv bl/\Jh wv (wl++[((p:Int),d)])/\Qe sv (sp.set p 1)/\Jn bl (wl++[((p:Int),d)])=true/\Yx sp=true/\Qn8 sp 0=some p/\d.length=256/\c<65535
theorem Q46{bv wv sv:V}{bl wl sp}(h:Xn bv wv sv bl wl sp)(e c b:Int)(hc0:0<=c){kv dv:V}{k d:List UInt8}(hk:Qe kv k)(hd:Qe dv d):
 Fz Tp Qg 24 [Yu bv wv sv e c,.int .u32 b,kv,dv] (Zbv bl wl sp e c b):=by
 refine Zm Tryz.func24 rfl ?_;obtain⟨_,_,h1⟩:=id h.blocks;obtain⟨_,_,h2⟩:=id h.waits;have a1:=Q4 h1;have a2:=Q4 h2;have a3:=Q4 h.space;have a4:=Q7 h1;have a5:=Q7 h2;have a6:=Q7 h.space;have s1:=Q4 hk;have s2:=Q4 hd;have s3:=Q7 hk;have s4:=Q7 hd;have s5:=Qad hk;have s6:=Qad hd;have hsl:Qw 1 (.iS [kv,dv] 2 true) [kv,dv] 2:=⟨rfl,.inr ⟨true,rfl⟩⟩;obtain⟨m,⟨er,rfl,hr⟩,hm⟩:=(Q8s h e c b 16 hk hd).op (by rfl) (Qa (Qbl h e c _) (Qa rfl (Qa rfl (Qa (hsl.frz _) rfl))));have hm1:∀s H,_:=fun s H=>hm 24 0 s H rfl;have mt18:Qg.mt 24 18=false:=B2 (by decide) rfl;cases c1:(er !=0)
 case true=>simp only[wX,↓Qc,simprocAttr,Tryz.ntmps24,a1,a2,a3,a4,a5,a6,s1,s2,s3,s4,s5,s6,mt18,Zu1,Qau,Qmr,hm1,c1];exact W.done (Q0.ret (v:= .tuple [Yu .nS .nS .nS 0 0,Qme 0 0 0 0 0,.int .i64 er]) rfl rfl (.inl ⟨er,rfl,by simpa using c1⟩))
 have e0:er=0:=by simpa using c1
 subst e0;obtain⟨ok,b1,b2,k16,d256⟩:=hr rfl;cases c2:(c==65535)
 case true=>simp only[wX,↓Qc,simprocAttr,Tryz.ntmps24,a1,a2,a3,a4,a5,a6,s1,s2,s3,s4,s5,s6,mt18,Zu1,Qau,Qmr,hm1,c1,c2];exact W.done (Q0.ret (v:= .tuple [Yu .nS .nS .nS 0 0,Qme 0 0 0 0 0,.int .i64 132]) rfl rfl (.inl ⟨132,rfl,by decide⟩))
 have hlim:1<=e/\e<=65535/\c<65535:=by
  simp only[Bi,Zoy,Zox,decide_eq_false_iff_not] at ok;have:c≠65535:=by simpa using c2
  omega
 have w1:(IntKind.u32).wrap (c+1)=c+1:=by simp only[IntKind.wrap,IntKind.bits,IntKind.signed,Zqy,Zn5,if_false];omega
 have sh:=Quc e ⟨hlim.1,hlim.2.1⟩;have so:=iv_or e (c+1) ⟨hlim.1,hlim.2.1⟩ ⟨by omega,by omega⟩;obtain⟨m,⟨w,l,t,er,rfl,hw,hl⟩,hm⟩:=(Zd7 kv dv k d (e*65536+(c+1)) hk hd (by omega) d256).op (by rfl) (Qa (hk.frz _) (Qa rfl (Qa (hd.frz _) rfl)));have hm2:∀s H,_:=fun s H=>hm 24 0 s H rfl;have s7:=Q4 hw;have s8:=Q7 hw;cases c3:(er !=0)
 case true=>simp only[wX,↓Qc,simprocAttr,Tryz.ntmps24,a1,a2,a3,a4,a5,a6,s1,s2,s3,s4,s5,s6,s7,s8,mt18,Zu1,Qau,Qmr,hm1,hm2,c1,c2,c3,w1,sh,so];exact W.done (Q0.ret (v:= .tuple [Yu .nS .nS .nS 0 0,Qme 0 0 0 0 0,.int .i64 er]) rfl rfl (.inl ⟨er,rfl,by simpa using c3⟩))
 have e0:er=0:=by simpa using c3
 subst e0;have ll:=hl rfl;obtain⟨m,hp,hm⟩:=(Q9n h e (c+1) b (e*65536+(c+1)) t hw).op (by rfl) (Qa (Qbl h e (c+1) _) (Qa rfl (Qa (hw.frz _) rfl)));have hm3:∀s H,_:=fun s H=>hm 24 0 s H rfl;rcases hp with⟨er,rfl,he⟩|⟨bv',wv',sv',p,s,rfl,k1,k2,k3,k4,k5,k6,k7,k8⟩
 . simp only[wX,↓Qc,simprocAttr,Tryz.ntmps24,a1,a2,a3,a4,a5,a6,s1,s2,s3,s4,s5,s6,s7,s8,mt18,Zu1,Qau,Qmr,hm1,hm2,hm3,c1,c2,c3,w1,sh,so];exact W.done (Q0.ret (v:= .tuple [Yu .nS .nS .nS 0 0,Qme 0 0 0 0 0,.int .i64 er]) rfl rfl (.inl ⟨er,rfl,he⟩))
 . obtain⟨_,_,g1⟩:=id k1;obtain⟨_,_,g2⟩:=id k2;have d1:=Q4 g1;have d2:=Q4 g2;have d3:=Q4 k3;simp only[wX,↓Qc,simprocAttr,Tryz.ntmps24,a1,a2,a3,a4,a5,a6,s1,s2,s3,s4,s5,s6,s7,s8,d1,d2,d3,mt18,Zu1,Qau,Qmr,hm1,hm2,hm3,c1,c2,c3,w1,sh,so];exact W.done (Q0.ret (v:= .tuple [Yu bv' wv' sv' e (c+1),Qme p b (e*65536+(c+1)) t s,.int .i64 0]) rfl (K3 (Qa (Qei (Qa (g1.frz 9) (Qa (g2.frz 9) (Qa (k3.frz 9) (Qa rfl (Qa rfl rfl)))))) (Qa rfl (Qa rfl rfl)))) (.inr ⟨bv',wv',sv',p,t,s,l,rfl,k1,k2,k3,k4,k5,k6,k7,hlim.2.2⟩))
def Xw(id:Int)(c:Qp):Bool:=c.set==id&&(decide ((c.n:Int)>0)&&decide (c.laid=Bf))
theorem Q70(C F2:AM.Frame)(a:List V)(bv wv sv mv lw kw ow cw:V)(p:Kx)(id many e:Int)(c:Qp)(dv:V)(d:List UInt8)(hd:Qe dv d)(hn:c.n=d.length)
 (hW:WF [C,[(2,.cells a),(14,.cells (Qx (Qf bv wv sv mv lw kw ow cw p) id many e))],F2,[(1,.cells [.ptr 1 14 0])]]):
 CW Tp Qg 22 [.agg (Ql c dv),.ptr 3 1 0] [C,[(2,.cells a),(14,.cells (Qx (Qf bv wv sv mv lw kw ow cw p) id many e))],F2,[(1,.cells [.ptr 1 14 0])]] fun r H' =>r= .ret (.bool (Xw id c))/\H' =[C,[(2,.cells a),(14,.cells (Qx (Qf bv wv sv mv lw kw ow cw p) id many e))],F2,[(1,.cells [.ptr 1 14 0])]]:=by
 refine Zu Tryz.func22 rfl ?_;have s1:=Q4 hd;have s2:=Q7 hd;obtain⟨cset,cobj,cindex,ckind,clinks,csize,cn,⟨pa,pb,pi,pt,ps⟩⟩:=c;simp only at hn;subst hn;have len:=hd.len Zu0;simp only[Ql,Qx,Qf,Zo8,Zpu];simp only[Qx,Qf,Zo8,Zpu] at hW;have pop:∀(b:Bool) (X:AM.Frame),Yk 4 (.bool b) [C,[(2,.cells a),(14,.cells _)],F2,[(1,.cells [.ptr 1 14 0])],X]=_:=fun b X=>Zf (G:=[X]) (v:= .bool b) rfl hW;have hq:=fun x y=>Qgf (x:=x) (y:=y) ⟨pa,pb,pi,pt,ps⟩ Bf;simp only[Yb.cells,Bf] at hq;cases c1:(cset==id)
 . simp only[wX,↓Qc,simprocAttr,Tryz.ntmps22,s1,s2,c1];refine W.opsT (by rcases hd with⟨_,⟨rfl,_⟩|⟨_,rfl⟩⟩<;>kernel_rfl) ?_;simp only[wX,↓Qc,simprocAttr,s1,s2,c1];refine W.done (End.ret (v:= .bool false) rfl ⟨?_,?_⟩)
   . simp[Xw,c1]
   . exact pop _ _
 . cases c2:decide ((d.length:Int)>0)
   . simp only[wX,↓Qc,simprocAttr,Tryz.ntmps22,s1,s2,c1,c2,len];refine W.opsT (by rcases hd with⟨_,⟨rfl,_⟩|⟨_,rfl⟩⟩<;>kernel_rfl) ?_;simp only[wX,↓Qc,simprocAttr,s1,s2,c1,c2,len];refine W.done (End.ret (v:= .bool false) rfl ⟨?_,?_⟩)
     . simp only[Xw,c1,c2];rfl
     . exact pop _ _
   . simp only[wX,↓Qc,simprocAttr,Tryz.ntmps22,s1,s2,c1,c2,len,hq]
     try refine W.opsT (by rcases hd with⟨_,⟨rfl,_⟩|⟨_,rfl⟩⟩<;>kernel_rfl) ?_
     try simp only[wX,↓Qc,simprocAttr,s1,s2,c1,c2,len,hq]
     refine W.done (End.ret (v:= .bool (decide ((⟨pa,pb,pi,pt,ps⟩:Yb)=⟨0,0,0,0,0⟩))) rfl ⟨?_,?_⟩)
     . simp only[Xw,c1,c2,Bf];rfl
     . exact pop _ _
theorem Q42(C F2:AM.Frame)(a:List V)(bv wv sv mv lw kw ow cw:V)(p:Kx)(id many e:Int)(c:Qp)(dv:V)(d:List UInt8)(hd:Qe dv d)(hn:c.n=d.length)
 (hW:WF [C,[(2,.cells a),(14,.cells (Qx (Qf bv wv sv mv lw kw ow cw p) id many e))],F2,[(1,.cells [.ptr 1 14 0])],[],[]]):
 CW Tp Qg 22 [.agg (Ql c dv),.ptr 3 1 0] [C,[(2,.cells a),(14,.cells (Qx (Qf bv wv sv mv lw kw ow cw p) id many e))],F2,[(1,.cells [.ptr 1 14 0])],[],[]] fun r H' =>r= .ret (.bool (Xw id c))/\H' =[C,[(2,.cells a),(14,.cells (Qx (Qf bv wv sv mv lw kw ow cw p) id many e))],F2,[(1,.cells [.ptr 1 14 0])],[],[]]:=by
 refine Zu Tryz.func22 rfl ?_;have s1:=Q4 hd;have s2:=Q7 hd;obtain⟨cset,cobj,cindex,ckind,clinks,csize,cn,⟨pa,pb,pi,pt,ps⟩⟩:=c;simp only at hn;subst hn;have len:=hd.len Zu0;simp only[Ql,Qx,Qf,Zo8,Zpu];simp only[Qx,Qf,Zo8,Zpu] at hW;have pop:∀(b:Bool) (X:AM.Frame),Yk 6 (.bool b) [C,[(2,.cells a),(14,.cells _)],F2,[(1,.cells [.ptr 1 14 0])],[],[],X]=_:=fun b X=>Zf (G:=[X]) (v:= .bool b) rfl hW;have hq:=fun x y=>Qgf (x:=x) (y:=y) ⟨pa,pb,pi,pt,ps⟩ Bf;simp only[Yb.cells,Bf] at hq;cases c1:(cset==id)
 . simp only[wX,↓Qc,simprocAttr,Tryz.ntmps22,s1,s2,c1];refine W.opsT (by rcases hd with⟨_,⟨rfl,_⟩|⟨_,rfl⟩⟩<;>kernel_rfl) ?_;simp only[wX,↓Qc,simprocAttr,s1,s2,c1];refine W.done (End.ret (v:= .bool false) rfl ⟨?_,?_⟩)
   . simp[Xw,c1]
   . exact pop _ _
 . cases c2:decide ((d.length:Int)>0)
   . simp only[wX,↓Qc,simprocAttr,Tryz.ntmps22,s1,s2,c1,c2,len];refine W.opsT (by rcases hd with⟨_,⟨rfl,_⟩|⟨_,rfl⟩⟩<;>kernel_rfl) ?_;simp only[wX,↓Qc,simprocAttr,s1,s2,c1,c2,len];refine W.done (End.ret (v:= .bool false) rfl ⟨?_,?_⟩)
     . simp only[Xw,c1,c2];rfl
     . exact pop _ _
   . simp only[wX,↓Qc,simprocAttr,Tryz.ntmps22,s1,s2,c1,c2,len,hq]
     try refine W.opsT (by rcases hd with⟨_,⟨rfl,_⟩|⟨_,rfl⟩⟩<;>kernel_rfl) ?_
     try simp only[wX,↓Qc,simprocAttr,s1,s2,c1,c2,len,hq]
     refine W.done (End.ret (v:= .bool (decide ((⟨pa,pb,pi,pt,ps⟩:Yb)=⟨0,0,0,0,0⟩))) rfl ⟨?_,?_⟩)
     . simp only[Xw,c1,c2,Bf];rfl
     . exact pop _ _
end
end Go.Proofs.YtjllfbejpjonnaaGreatDoor
