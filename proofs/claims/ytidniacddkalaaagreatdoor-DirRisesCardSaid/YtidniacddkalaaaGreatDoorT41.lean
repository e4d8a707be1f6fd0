/- This file holds in one the texts F27, F28, F29, F30; each says at its head what it proves. -/
import Derived.Test.YtidniacddkalaaaGreatDoorT26
import Derived.Test.YtidniacddkalaaaGreatDoorT34
import Derived.Test.YtidniacddkalaaaGreatDoorT36
import Derived.Test.YtidniacddkalaaaGreatDoorT37
import Derived.Test.YtidniacddkalaaaGreatDoorT40
set_option linter.unusedSimpArgs false
set_option linter.unusedVariables false
section
set_option maxRecDepth 100000
namespace Go.Proofs.YtidniacddkalaaaGreatDoor
open Go.AM
attribute [local irreducible] U W
def Xp(l:List Xo):Prop:=(∀e∈l,Qe1 e.1=0/\1<=e.2/\e.2<=15)/\∀i,(h:i+1<l.length)->Op.bytesLess l[i].1 l[i+1].1=true
theorem Xp.nil:Xp []:=⟨(fun e h=>by cases h),(fun i h=>by simp at h)⟩
theorem Xp.add{l:List Xo}(h:Xp l){e:Xo}(h1:Qe1 e.1=0)(h2:1<=e.2)(h3:e.2<=15)(h4:∀x,l.getLast?=some x->Op.bytesLess x.1 e.1=true):Xp (l++[e]):=by
 refine⟨fun x hx=>?_,fun i hi=>?_⟩
 . rcases Zr5.1 hx with h' |h'
   . exact h.1 x h'
   . rw[Zr0.1 h'];exact⟨h1,h2,h3⟩
 . simp only[Zsi,Zrs,Zs9] at hi;by_cases h5:i+1<l.length
   . rw[List.getElem_append_left (by omega),List.getElem_append_left h5];exact h.2 i h5
   . have e1:i+1=l.length:=by omega
     rw[List.getElem_append_left (by omega),List.getElem_append_right (by omega)];simp only[e1,Zt5,List.getElem_cons_zero];refine h4 _ ?_;rw[List.getLast?_eq_getElem?,show l.length-1=i by omega,Zra]
def Qfb(a:AM.O)(b:AM.O)(c:AM.O)(o:AM.O):AM.Frame:=[(4,a),(5,b),(6,c),(1000003,o)]
def Qcg(l:List Xo)(o:AM.O):Heap:=[Qfb (.cells [.nS]) (.cells [.bool false]) (.cells [.gS 2 66 (Yi l) l.length 2]) o,[],[(66,.grow l.length)]]
def Qh2(l:List Xo)(o:AM.O):Heap:=if l.length=0 then[Qfb (.cells [.nS]) (.cells [.bool false]) (.cells [.nS]) o,[]] else Qcg l o
theorem Qrx{o:AM.O}:Qh2 [] o=[Qfb (.cells [.nS]) (.cells [.bool false]) (.cells [.nS]) o,[]]:=rfl
theorem Qpl{l:List Xo}{o:AM.O}(h:0<l.length):Qh2 l o=Qcg l o:=if_neg (by omega)
def Qsl(T:List V)(j:Nat)(H:Heap):Prop:=∃es,es.length=j/\Xp es/\H=Qh2 es (.loop 0 none 16 3 T)
def Qw6(T:List V)(n:Nat)(H:Heap):Prop:=(∃es,H=Qh2 es (.loop 2 (some none) 16 3 T))\/Qsl T n H
theorem Qzw{mt:Nat->Bool}{dst:Option Nat}{x:V}:Qhh Tryz.prog mt dst 26 9 x=none:=by unfold Qhh;simp only[Tryz.underlying26,Tryz.underlying9]
theorem byE:byt Tryz.prog 46=some 24:=by kernel_rfl
theorem Q80(g:Get)(b:UInt8):convertV Tryz.prog g 5 3 (.int .u8 b.toNat)=some (.val (.int .i64 b.toNat) none):=by have:=b.toNat_lt;simp only[convertV,Tryz.underlying3,Tryz.underlying5,wrap_i64 (n:=(b.toNat:Int)) (by omega) (by omega)]
theorem Q1c(T:List V)(hT:T.length=78)(h4:T.getD 4 .bad= .ptr 0 4 0)(h5:T.getD 5 .bad= .ptr 0 5 0)(h6:T.getD 6 .bad= .ptr 0 6 0)(hr:Qi (fun f _=>Nat.ble 1 f) T=false)(n j:Nat)(hj:j<16)(H:Heap)(hI:Qsl T j H)(w:V)(b:List UInt8)(hw:Qf w b)(hb:b.length=16):
 ∃x H',Qp Tryz.prog Qg none [.yield 0 1000003,w] H=some (.ret (.bool x),H')/\(x=true->Qsl T (j+1) H')/\(x=false->Qw6 T n H'):=by
 have mt:∀s,s<2000000->Qg.mt 16 s=false:=fun s h=>Qch h rfl;obtain⟨b0,b1,hb0,hb1⟩:∃b0 b1:UInt8,b[0]?=some b0/\b[1]?=some b1:=⟨_,_,Zra (by omega),Zra (by omega)⟩;have at0:Qm Tryz.prog 26 w (.int .i64 0)=some (.iptr (Qb b) 0):=hw.at (k:= .i64) Tryz.underlying26 sz5 (by decide) (i:=0) (by omega) (by omega);have at1:Qm Tryz.prog 26 w (.int .i64 1)=some (.iptr (Qb b) 1):=hw.at (k:= .i64) Tryz.underlying26 sz5 (by decide) (i:=1) (by omega) (by omega);have get0:(Qb b)[0]?=some (.int .u8 b0.toNat):=by simp[Qb,hb0]
 have get1:(Qb b)[1]?=some (.int .u8 b1.toNat):=by simp[Qb,hb1]
 have nl:Qn Tryz.prog 39 [V.nS] 0=some .nS:=by rw[rd39];rfl
 have cv:=fun g (b:UInt8)=>Q80 g b;have c01:=b0.toNat_lt;have c11:=b1.toNat_lt;obtain⟨es,hes,hok,rfl⟩:=hI;obtain⟨m,hq,hm⟩:=(Qf4 ((b.drop 2).take b1.toNat) (by simp;omega)).op (by rfl) rfl;have hm1:∀fr s H,_:=fun fr s H=>hm 16 fr s H rfl;rw[hq] at hm1;clear hm hq;have cl0:∀(st:Nat) (p:Option (Option Nat)),WF (Qh2 [] (.loop st p 16 3 T)):=fun st p=>by have h0:(O.loop st p 16 3 T).refs (fun f _=>Nat.ble 2 f)=false:=J9 (Qb3 (by omega)) T hr;show Qz (fun f _=>Nat.ble 2 f) _=true;simp only[Qrx,Qfb,Qz,Zb,h0];rfl
 cases es with
 |nil=>
  obtain⟨r,H3,h1,x,rfl,h5'⟩:=B8 (P:=Tryz.prog) (pol:=Qg) (fo:=0) (so:=1000003) (args:=[w]) (H:=Qh2 [] (.loop 0 none 16 3 T)) (p:=none) (fL:=16) (rid:=3) (t0:=T)
   (R:=fun r H' =>∃x,r= .ret (.bool x)/\(x=true->Qsl T (j+1) H')/\(x=false->Qw6 T n H')) rfl (X9 Tryz.func16 rfl rfl) rfl (by
     change W (U _ _ _ _ _ _ _ .normal (T.set 15 _) _) _;simp only[Qrx,Qfb];simp only[wA,↓Qc,simprocAttr,wH,wB,ta,Yo,Yq,Qci,Qce,Zs5,hT,h4,h5,h6,Nat.reduceBEq,at0,at1,get0,get1,cv];refine W.done ⟨rfl,none,16,3,T,rfl,?_⟩;cases hq0:((b0.toNat:Int)==0)
     case true=>simp only[wA,↓Qc,simprocAttr,wH,wB,ta,Yo,Yq,Qci,Qce,Zs5,hT,h4,h5,h6,Nat.reduceBEq,at0,at1,get0,get1,cv,hq0];exact W.done ⟨_,_,rfl,false,rfl,(fun h=>by cases h),fun _=> .inl ⟨[],Zl (H:=Qh2 [] (.loop 2 (some none) 16 3 T)) (G:=[[]]) rfl (cl0 _ _)⟩⟩
     cases hq1:decide ((b0.toNat:Int)>=16)
     case true=>simp only[wA,↓Qc,simprocAttr,wH,wB,ta,Yo,Yq,Qci,Qce,Zs5,hT,h4,h5,h6,Nat.reduceBEq,at0,at1,get0,get1,cv,hq0,hq1];exact W.done ⟨_,_,rfl,false,rfl,(fun h=>by cases h),fun _=> .inl ⟨[],Zl (H:=Qh2 [] (.loop 2 (some none) 16 3 T)) (G:=[[]]) rfl (cl0 _ _)⟩⟩
     cases hq2:decide ((b1.toNat:Int)>14)
     case true=>simp only[wA,↓Qc,simprocAttr,wH,wB,ta,Yo,Yq,Qci,Qce,Zs5,hT,h4,h5,h6,Nat.reduceBEq,at0,at1,get0,get1,cv,hq0,hq1,hq2];exact W.done ⟨_,_,rfl,false,rfl,(fun h=>by cases h),fun _=> .inl ⟨[],Zl (H:=Qh2 [] (.loop 2 (some none) 16 3 T)) (G:=[[]]) rfl (cl0 _ _)⟩⟩
     have hq2' :b1.toNat<=14:=by have:=of_decide_eq_false hq2;omega
     have w36:(IntKind.i64).wrap (2+(b1.toNat:Int))=((2+b1.toNat:Nat):Int):=by rw[wrap_i64]<;>omega
     obtain⟨wx,slx,hwx⟩:=hw.cut (P:=Tryz.prog) Tryz.underlying26 sz5 (some 2) (some ((2+b1.toNat:Nat):Int)) (by simp) (by simp only[Zs3];omega) (by simp only[Zs3];omega);have slx' :∀g,Zh Tryz.prog g 26 w (some (.int .i64 2)) (some (.int .i64 ((2+b1.toNat:Nat):Int))) none=some wx:=slx;have hwx' :Qf wx ((b.drop 2).take b1.toNat):=by simp only[Zs3] at hwx;rw[show(((2+b1.toNat:Nat):Int).toNat-(2:Int).toNat)=b1.toNat by omega] at hwx;exact hwx
     have hnl:((b.drop 2).take b1.toNat).length=b1.toNat:=by simp;omega
     have cs:∀g,convertV Tryz.prog g 26 9 wx=some (.val (.str ((b.drop 2).take b1.toNat)) none):=fun g=>Qfk Tryz.underlying26 Tryz.underlying5 Tryz.underlying9 (hwx'.sc);have sx:=Ze hwx';generalize(b.drop 2).take b1.toNat=nm at*;rcases Qk6 nm with hE|hE<;>rw[hE] at hm1
     . have a1:Qq Tryz.prog (Qg.mt 16) 2 (Qd [[(4,.cells [.nS]),(5,.cells [.bool false]),(6,.cells [.nS]),(1000003,.loop 1 none 16 3 T)],[],[]]) (some 66) 39 39 .nS (.iS [.str nm,.int .i64 b0.toNat] 1 true)=some (.val (.gS 2 66 (Yi [(nm,(b0.toNat:Int))]) 1 2) (some (2,66,.grow 1))):=by
        rw[Qbq Tryz.underlying39 Ql8 byE zc46 rfl Tryz.underlying39 rfl (by decide) (by decide),Xc (mt _ (by decide)) rfl rfl];rfl
       simp only[wA,↓Qc,simprocAttr,wH,wB,ta,Yo,Yq,Qci,Qce,Zs5,hT,h4,h5,h6,Nat.reduceBEq,at0,at1,get0,get1,cv,hq0,hq1,hq2,w36,slx',cs,Qzw,hm1,Q2,a1,nl,Tryz.underlying39,Ql8,zc46,Zrs,Zs9,mt];refine W.opsT (by kernel_rfl) ?_;simp only[wA,↓Qc,simprocAttr];have n0:b0.toNat≠0:=fun h=>by rw[h] at hq0;cases hq0
       have n16:=of_decide_eq_false hq1;refine W.done ⟨_,_,rfl,true,rfl,fun _=>⟨[(nm,(b0.toNat:Int))],by rw[<-hes];rfl,Xp.nil.add hE (by simp only;omega) (by simp only;omega) (fun x h=>by cases h),?_⟩,(fun h=>by cases h)⟩;exact Qc4 rfl
     . simp only[wA,↓Qc,simprocAttr,wH,wB,ta,Yo,Yq,Qci,Qce,Zs5,hT,h4,h5,h6,Nat.reduceBEq,at0,at1,get0,get1,cv,hq0,hq1,hq2,w36,slx',cs,Qzw,hm1]
       exact W.done ⟨_,_,rfl,false,rfl,(fun h=>by cases h),fun _=> .inl ⟨[],Zl (H:=Qh2 [] (.loop 2 (some none) 16 3 T)) (G:=[[]]) rfl (cl0 _ _)⟩⟩)
  exact⟨x,H3,h1,h5'⟩
 |cons e es=>
  have hl0:0<(e::es).length:=by simp
  obtain⟨l0,ln,hll⟩:∃l0 x,e::es=l0++[x]:=⟨_,_,(List.dropLast_concat_getLast (List.cons_ne_nil e es)).symm⟩;generalize e::es=l at*;obtain⟨ln,lo⟩:=ln;rw[Qpl hl0];have hl1:l.length=l0.length+1:=by rw[hll];simp
  have ia:Qm Tryz.prog 39 (.gS 2 66 (Yi l) l.length 2) (.int .i64 ((l0.length:Nat):Int))=some (.iptr (Yi l) (l0.length*2)):=by simp only[Qm,Tryz.underlying39,Ql8,Qls,if_true,Ztx];rw[if_pos ⟨by omega,by omega,trivial⟩]
  have wl:(IntKind.i64).wrap ((l.length:Int)-1)=((l0.length:Nat):Int):=by rw[wrap_i64]<;>omega
  have c0:decide ((l.length:Int)>0)=true:=Zum (by omega);have rl:(Yi l)[l0.length*2+0]?=some (.str ln):=by rw[hll,Qyt,Zsl (by rw[Qda];omega),Qda,Ztw,Zt5];rfl
  have lg:∀g,Y4 Tryz.prog g 39 (.gS 2 66 (Yi l) l.length 2)=_:=fun g=>Q4j Tryz.underlying39 g;have ge:∀x y a b,Zp Tryz.prog .geq 9 x y (.str a) (.str b)=some (.bool (!(Op.bytesLess a b))):=fun x y a b=>rfl;have nlg:∀x:V,Qn Tryz.prog 39 [x] 0=some x:=fun x=>by rw[rd39];rfl
  have ne:=Qir;have cl1:∀(l:List Xo) (st:Nat) (p:Option (Option Nat)),WF (Qcg l (.loop st p 16 3 T)):=fun l st p=>by have h0:(O.loop st p 16 3 T).refs (fun f _=>Nat.ble 3 f)=false:=J9 (Qb3 (by omega)) T hr;show Qz (fun f _=>Nat.ble 3 f) _=true;have h0' :Qi (fun f _=>Nat.ble 3 f) T=false:=h0;simp only[Qcg,Qfb,Qz,Zb,O.refs,Qi,V.refs,ne,h0'];rfl
  obtain⟨r,H3,h1,x,rfl,h5'⟩:=B8 (P:=Tryz.prog) (pol:=Qg) (fo:=0) (so:=1000003) (args:=[w]) (H:=Qcg l (.loop 0 none 16 3 T)) (p:=none) (fL:=16) (rid:=3) (t0:=T)
   (R:=fun r H' =>∃x,r= .ret (.bool x)/\(x=true->Qsl T (j+1) H')/\(x=false->Qw6 T n H')) rfl (X9 Tryz.func16 rfl rfl) rfl (by
     change W (U _ _ _ _ _ _ _ .normal (T.set 15 _) _) _;simp only[Qcg,Qfb];simp only[wA,↓Qc,simprocAttr,wH,wB,ta,Yo,Yq,Qci,Qce,Zs5,hT,h4,h5,h6,Nat.reduceBEq,at0,at1,get0,get1,cv];refine W.done ⟨rfl,none,16,3,T,rfl,?_⟩;have stop:Qw6 T n (Bb 3 (.bool false) (Qcg l (.loop 2 (some none) 16 3 T)++[[]])):= .inl ⟨l,by
      rw[Qpl hl0]
      exact Zl (H:=Qcg l (.loop 2 (some none) 16 3 T)) (G:=[[]]) rfl (cl1 _ _ _)⟩
     cases hq0:((b0.toNat:Int)==0)
     case true=>simp only[wA,↓Qc,simprocAttr,wH,wB,ta,Yo,Yq,Qci,Qce,Zs5,hT,h4,h5,h6,Nat.reduceBEq,at0,at1,get0,get1,cv,hq0];exact W.done ⟨_,_,rfl,false,rfl,(fun h=>by cases h),fun _=>stop⟩
     cases hq1:decide ((b0.toNat:Int)>=16)
     case true=>simp only[wA,↓Qc,simprocAttr,wH,wB,ta,Yo,Yq,Qci,Qce,Zs5,hT,h4,h5,h6,Nat.reduceBEq,at0,at1,get0,get1,cv,hq0,hq1];exact W.done ⟨_,_,rfl,false,rfl,(fun h=>by cases h),fun _=>stop⟩
     cases hq2:decide ((b1.toNat:Int)>14)
     case true=>simp only[wA,↓Qc,simprocAttr,wH,wB,ta,Yo,Yq,Qci,Qce,Zs5,hT,h4,h5,h6,Nat.reduceBEq,at0,at1,get0,get1,cv,hq0,hq1,hq2];exact W.done ⟨_,_,rfl,false,rfl,(fun h=>by cases h),fun _=>stop⟩
     have hq2' :b1.toNat<=14:=by have:=of_decide_eq_false hq2;omega
     have w36:(IntKind.i64).wrap (2+(b1.toNat:Int))=((2+b1.toNat:Nat):Int):=by rw[wrap_i64]<;>omega
     obtain⟨wx,slx,hwx⟩:=hw.cut (P:=Tryz.prog) Tryz.underlying26 sz5 (some 2) (some ((2+b1.toNat:Nat):Int)) (by simp) (by simp only[Zs3];omega) (by simp only[Zs3];omega);have slx' :∀g,Zh Tryz.prog g 26 w (some (.int .i64 2)) (some (.int .i64 ((2+b1.toNat:Nat):Int))) none=some wx:=slx;have hwx' :Qf wx ((b.drop 2).take b1.toNat):=by simp only[Zs3] at hwx;rw[show(((2+b1.toNat:Nat):Int).toNat-(2:Int).toNat)=b1.toNat by omega] at hwx;exact hwx
     have cs:∀g,convertV Tryz.prog g 26 9 wx=some (.val (.str ((b.drop 2).take b1.toNat)) none):=fun g=>Qfk Tryz.underlying26 Tryz.underlying5 Tryz.underlying9 (hwx'.sc);have sx:=Ze hwx';generalize(b.drop 2).take b1.toNat=nm at*;rcases Qk6 nm with hE|hE<;>rw[hE] at hm1
     . cases hless:Op.bytesLess ln nm
       . simp only[wA,↓Qc,simprocAttr,wH,wB,ta,Yo,Yq,Qci,Qce,Zs5,hT,h4,h5,h6,Nat.reduceBEq,at0,at1,get0,get1,cv,hq0,hq1,hq2,w36,slx',cs,Qzw,hm1,nlg,lg,c0,wl,ia,rl,ge,hless,Tryz.underlying39];exact W.done ⟨_,_,rfl,false,rfl,(fun h=>by cases h),fun _=>stop⟩
       . have a1:∀mt dst,Qq Tryz.prog mt 3 (Qd [[(4,.cells [.nS]),(5,.cells [.bool false]),(6,.cells [.gS 2 66 (Yi l) l.length 2]),(1000003,.loop 1 none 16 3 T)],[],[(66,.grow l.length)],[]]) dst 39 39 (.gS 2 66 (Yi l) l.length 2) (.iS [.str nm,.int .i64 b0.toNat] 1 true)=some (.val (.gS 2 66 (Yi (l++[(nm,(b0.toNat:Int))])) (l.length+1) 2) (some (2,66,.grow (l.length+1)))):=fun mt dst=>by
          rw[Qa2 Tryz.underlying39 Ql8 byE zc46 rfl Tryz.underlying39 rfl (by decide) (Jj (by omega) (by omega)) rfl rfl rfl,Qyt];rfl
         simp only[wA,↓Qc,simprocAttr,wH,wB,ta,Yo,Yq,Qci,Qce,Zs5,hT,h4,h5,h6,Nat.reduceBEq,at0,at1,get0,get1,cv,hq0,hq1,hq2,w36,slx',cs,Qzw,hm1,nlg,lg,c0,wl,ia,rl,ge,hless,Q2,a1,Tryz.underlying39,Ql8,zc46,Zrs,Zs9,mt];refine W.opsT (by kernel_rfl) ?_;simp only[wA,↓Qc,simprocAttr];have n0:b0.toNat≠0:=fun h=>by rw[h] at hq0;cases hq0
         have n16:=of_decide_eq_false hq1;refine W.done ⟨_,_,rfl,true,rfl,fun _=>⟨l++[(nm,(b0.toNat:Int))],by rw[<-hes,Zsi];rfl,hok.add hE (by simp only;omega) (by simp only;omega) (fun x h=>?_),?_⟩,(fun h=>by cases h)⟩
         . rw[hll,List.getLast?_concat] at h;cases h;exact hless
         . have e:∀o,Qcg (l++[(nm,(b0.toNat:Int))]) o=[Qfb (.cells [.nS]) (.cells [.bool false]) (.cells [.gS 2 66 (Yi (l++[(nm,(b0.toNat:Int))])) (l.length+1) 2]) o,[],[(66,.grow (l.length+1))]]:=fun o=>by
            simp only[Qcg,Zsi,Zrs,Zs9]
           rw[Qpl (by simp),<-Zl (H:=Qcg (l++[(nm,(b0.toNat:Int))]) _) (G:=[[]]) (v:= .bool true) rfl (cl1 _ _ _),e];rfl
     . simp only[wA,↓Qc,simprocAttr,wH,wB,ta,Yo,Yq,Qci,Qce,Zs5,hT,h4,h5,h6,Nat.reduceBEq,at0,at1,get0,get1,cv,hq0,hq1,hq2,w36,slx',cs,Qzw,hm1]
       exact W.done ⟨_,_,rfl,false,rfl,(fun h=>by cases h),fun _=>stop⟩)
  exact⟨x,H3,h1,h5'⟩
def Qos(l:List Xo)(o:AM.O):Heap:=if l.length=0 then[Qfb (.cells [.nS]) (.cells [.bool false]) (.cells [.nS]) o] else Qcg l o
theorem Qss(T:List V)(hr:Qi (fun f _=>Nat.ble 1 f) T=false)(l:List Xo)(st:Nat)(p:Option (Option Nat)):Bb 1 (.tuple []) (Qh2 l (.loop st p 16 3 T))=Qos l (.loop st p 16 3 T):=by
 cases l with
 |nil=>
  have h0:(O.loop st p 16 3 T).refs (fun f _=>Nat.ble 1 f)=false:=hr;refine Zl (H:=[Qfb (.cells [.nS]) (.cells [.bool false]) (.cells [.nS]) (.loop st p 16 3 T)]) (G:=[[]]) rfl ?_;show Qz (fun f _=>Nat.ble 1 f) _=true;simp only[Qfb,Qz,Zb,h0];rfl
 |cons e l=>exact Qc4 rfl
theorem frz_gb(g:Get)(f s n:Nat)(b:List UInt8):AM.frz g depth (.gS f s (Qb b) n 1)=some (.iS (Qb b) n false):=by show(Qt (AM.frz g 11) (Qb b)).map _=_;rw[Qde g 10 (Bw b)];rfl
theorem frz_ge(g:Get)(f s n:Nat)(l:List Xo):AM.frz g depth (.gS f s (Yi l) n 2)=some (.iS (Yi l) n false):=by show(Qt (AM.frz g 11) (Yi l)).map _=_;rw[Qoj g 10 l];rfl
theorem app_nz{mt:Nat->Bool}{fr d:Nat}{g:Get}{m:Nat}(hn:m+1<=1048576)(hd:mt d=false)(hg:g fr d=none):
 Qq Tryz.prog mt fr g (some d) 26 3 .nS (.int .i64 ((m+1:Nat):Int))=some (.val (.gS fr d (Qb (zB (m+1))) (m+1) 1) (some (fr,d,.grow (m+1)))):=by
 have z1:zeroCells Tryz.prog 5=some [.int .u8 0]:=zc5;have r2:Jl (m+1) 1=true:=Jj (by omega) (by omega);have asr:Z3 Tryz.prog g 3 1 1 [.int .u8 0] (.int .i64 ((m+1:Nat):Int))=some (Qb (zB (m+1)),m+1):=by simp only[Z3,Tryz.underlying3];rw[if_pos ⟨by omega,by simpa using r2⟩,<-Qip];rfl
 simp only[Qq,Tryz.underlying26,sz5,Qcp,z1,asr,appendTo,r2,if_true];rw[if_pos (show[V.int .u8 0].length=1 from rfl),Xc hd (Qc2 (Bw _)) hg]
theorem Q0b(v:V)(l B:List UInt8)(hv:Qf v l)(n:Nat)(hn:B.length=n)(f s:Nat)(d:Option Nat)(H:Heap):
 callOp Qg (Qp Tryz.prog Qg) 16 0 d 35 [.gS f s (Qb B) n 1,v] H=some (.ret (.bool (decide (B=l))),H):=by
 have hB:Qf (.iS (Qb B) n false) B:=by have:=Qf.mk B false;rw[hn] at this;exact this
 have hf:Fz Tryz.prog Qg 35 [.iS (Qb B) n false,v] fun x=>x= .bool (decide (B=l)):=by refine Fz.of_cw ((Qzf _ v B l hB hv).mono ?_);rintro r H rfl;exact⟨_,rfl,_,rfl,rfl⟩
 obtain⟨_,rfl,hm⟩:=hf.op' (args:=[.gS f s (Qb B) n 1,v]) (by rfl) (Qa (frz_gb _ _ _ _ _) (Qa (hv.frz _) rfl));exact hm _ _ _ _ rfl
def RRead(n:Nat)(x:V):Prop:=∃w b,x= .tuple [w,.bool b]/\(b=true->∃es,Qj4 w es/\Xp es/\es.length=n)
theorem Q7n(v:V)(l:List UInt8)(hv:Qf v l)(n:Nat)(hn:n<=16)(hl:l.length=16*n)(T:List V)(hT:T.length=78)(h4:T.getD 4 .bad= .ptr 0 4 0)(h5:T.getD 5 .bad= .ptr 0 5 0)(h6:T.getD 6 .bad= .ptr 0 6 0)(hr:Qi (fun f _=>Nat.ble 1 f) T=false):
 CW Tryz.prog Qg 58 [.yield 0 1000003,.iptr [v] 0,.iptr [.int .i64 16] 0] [Qfb (.cells [.nS]) (.cells [.bool false]) (.cells [.nS]) (.loop 0 none 16 3 T)] fun r H' =>r= .ret (.tuple [])/\
  ∃es,(H' =Qos es (.loop 2 (some none) 16 3 T)\/es.length=n/\Xp es/\H' =Qos es (.loop 0 none 16 3 T)):=by
 refine(Qsq v l hv (by omega) 16 (by omega) (by omega) n hl 0 1000003 [Qfb (.cells [.nS]) (.cells [.bool false]) (.cells [.nS]) (.loop 0 none 16 3 T)] (Qsl T) (Qw6 T n) ⟨[],rfl,Xp.nil,rfl⟩ ?_ ?_).mono ?_
 . intro j H hj hI w hw;exact Q1c T hT h4 h5 h6 hr n j (by omega) H hI w _ hw (by simp;omega)
 . exact fun H h=> .inr h
 rintro r H2 ⟨rfl,HE,⟨es,rfl⟩|⟨es,h1,h2,rfl⟩,rfl⟩
 . exact⟨rfl,es,.inl (Qss T hr es _ _)⟩
 . exact⟨rfl,es,.inr ⟨h1,h2,Qss T hr es _ _⟩⟩
theorem Zd3(v:V)(l:List UInt8)(hv:Qf v l)(hl:l.length=256)(n:Nat)(hn:n<=16):Fz Tryz.prog Qg 16 [v,.int .i64 n] (RRead n):=by
 refine Qw Tryz.func16 rfl ?_;have len:=hv.len Tryz.underlying26;rw[hl] at len;have w16:(IntKind.i64).wrap ((n:Int)*16)=((n*16:Nat):Int):=by rw[wrap_i64]<;>omega
 obtain⟨w1,sl1,hw1⟩:=hv.cut (P:=Tryz.prog) Tryz.underlying26 sz5 none (some ((n*16:Nat):Int)) (by simp) (by simp only[Zs3,Zsu];omega) (by simp only[Zs3];omega);obtain⟨m,rfl,hm⟩:=(Qpi w1 _ hw1 16 (by omega)).op (by rfl) (Qa (hw1.frz _) rfl);have hm1:∀s H,callOp Qg (Qp Tryz.prog Qg) 16 0 s 34 [w1,.int .i64 16] H=_:=fun s H=>hm 16 0 s H rfl;have sl1' :∀g,Zh Tryz.prog g 26 v none (some (.int .i64 ((n*16:Nat):Int))) none=some w1:=sl1;have nr:∀q,v.refs q=false:=fun q=>hv.noRefs q;have nr1:∀q,w1.refs q=false:=fun q=>hw1.noRefs q;simp only[wA,↓Qc,simprocAttr,Tryz.ntmps16,ta,wH,wB,len,hm1,w16,sl1'];refine W.rfunc (rid:=3) rfl rfl rfl ?_;refine(Q7n w1 _ hw1 n hn (by simp;omega) _ rfl rfl rfl rfl ?_).mono ?_
 . simp only[Qi,V.refs,nr,nr1];rfl
 rintro r H2 ⟨rfl,es,rfl|⟨hen,hok,rfl⟩⟩
 . refine⟨_,rfl,?_⟩;cases es with
   |nil=>
    rw[Qek (st:=2) (f:=16) (r:=3) rfl (by decide) (by simp only[Qi,V.refs,nr,nr1];rfl) rfl];have hH:∀T,List.modify (Qos [] (.loop 2 (some none) 16 3 T)) 0 (Jb fun x=>[Qv 3].contains x)=[[(4,O.cells [.nS]),(5,.cells [.bool false]),(6,.cells [.nS])]]:=fun T=>rfl;rw[hH];simp only[wA,↓Qc,simprocAttr,wH,wB,ta,Z6];exact W.done (Qk.ret (v:= .tuple [.nS,.bool false]) rfl rfl ⟨_,_,rfl,(fun h=>by cases h)⟩)
   |cons e es=>
    have hne:=Qir;have hE:∀o,Qos (e::es) o=Qcg (e::es) o:=fun o=>rfl;simp only[hE];generalize e::es=l0 at*;have hH:∀T,List.modify (Qcg l0 (.loop 2 (some none) 16 3 T)) 0 (Jb fun x=>[Qv 3].contains x)=[[(4,O.cells [.nS]),(5,.cells [.bool false]),(6,.cells [.gS 2 66 (Yi l0) l0.length 2])],[],[(66,.grow l0.length)]]:=fun T=>rfl;rw[Qek (st:=2) (f:=16) (r:=3) rfl (by decide) (by simp only[Qi,V.refs,nr,nr1];rfl) (by
     rw[hH]
     simp only[Qz,Zb,O.refs,Qi,V.refs,hne];rfl)]
    rw[hH];simp only[wA,↓Qc,simprocAttr,wH,wB,ta,Z6];exact W.done (Qk.ret (v:= .tuple [.nS,.bool false]) rfl rfl ⟨_,_,rfl,(fun h=>by cases h)⟩)
 . refine⟨_,rfl,?_⟩;have mt75:Qg.mt 16 75=false:=Qch (by decide) rfl;have w256:(IntKind.i64).wrap (256-((n*16:Nat):Int))=((256-n*16:Nat):Int):=by rw[wrap_i64]<;>omega
   cases es with
   |nil=>
    have hn0:n=0:=hen.symm;have hH:∀T,List.modify (Qos [] (.loop 0 none 16 3 T)) 0 (Jb fun x=>[Qv 3].contains x)=[[(4,O.cells [.nS]),(5,.cells [.bool false]),(6,.cells [.nS])]]:=fun T=>rfl;rw[Qbg (st:=0) (f:=16) (r:=3) rfl (by decide) (by simp only[Qi,V.refs,nr,nr1];rfl) (by rw[hH];rfl)];rw[hH];obtain⟨r,H',e1,hR⟩:=Qys .nS [] Q0.nil (by simp) (fun e h=>by cases h);obtain rfl:r= .ret .nS:=by
     rcases hR with⟨_,h⟩|⟨b,h,_⟩
     . exact h
     . simp at h
    have hblk:callOp Qg (Qp Tryz.prog Qg) 16 0 (some 69) 36 [.nS] [[(4,.cells [.nS]),(5,.cells [.bool false]),(6,.cells [.nS])]]=some (.ret .nS,[[(4,.cells [.nS]),(5,.cells [.bool false]),(6,.cells [.nS]),(69,.dead)]]):=
     Qei (x:=(.nS,69,.dead)) rfl rfl rfl rfl e1 rfl
    have ap:Qq Tryz.prog (Qg.mt 16) 0 (Qd [[(4,.cells [.nS]),(5,.cells [.bool false]),(6,.cells [.nS]),(69,.dead)]]) (some 75) 26 3 .nS (.int .i64 ((256-n*16:Nat):Int))=some (.val (.gS 0 75 (Qb (zB 256)) 256 1) (some (0,75,.grow 256))):=by rw[hn0];exact app_nz (m:=255) (by decide) mt75 rfl
    have eq:∀d H,_:=fun d H=>Q0b v l (zB 256) hv 256 (Qgc _) 0 75 d H;generalize decide (zB 256=l)=q at*;generalize zB 256=Z at*;simp only[wA,↓Qc,simprocAttr,wH,wB,ta,Z6,hblk,Q2,ap,eq,w16,w256,len];obtain⟨fv,rfl⟩:=Qcw hv hl;refine W.opsT (by kernel_rfl) ?_;simp only[wA,↓Qc,simprocAttr];exact W.done (Qk.ret (v:= .tuple [.nS,.bool q]) rfl rfl ⟨_,_,rfl,fun _=>⟨[],Q0.nil,Xp.nil,hn0.symm⟩⟩)
   |cons e es=>
    have hl0:0<(e::es).length:=by simp
    have hne:=Qir;have hE:∀o,Qos (e::es) o=Qcg (e::es) o:=fun o=>rfl;simp only[hE];generalize e::es=l0 at*;have hH:∀T,List.modify (Qcg l0 (.loop 0 none 16 3 T)) 0 (Jb fun x=>[Qv 3].contains x)=[[(4,O.cells [.nS]),(5,.cells [.bool false]),(6,.cells [.gS 2 66 (Yi l0) l0.length 2])],[],[(66,.grow l0.length)]]:=fun T=>rfl;rw[Qbg (st:=0) (f:=16) (r:=3) rfl (by decide) (by simp only[Qi,V.refs,nr,nr1];rfl) (by
     rw[hH]
     simp only[Qz,Zb,O.refs,Qi,V.refs,hne];rfl)]
    rw[hH];obtain⟨r,H',e1,hR⟩:=Qys (.iS (Yi l0) l0.length false) l0 (Q0.mk (Qda l0)) (by omega) (fun e he=>Ql1 (hok.1 e he).1);obtain⟨b,hb,rfl,hg⟩:∃b:List UInt8,b.length=16*l0.length/\r= .ret (.gS 0 21 (Qb b) (16*l0.length) 1)/\Qd H' 0 21=some (.grow (16*l0.length)):=by
     rcases hR with⟨h,_⟩|⟨b,_,h1,h2,h3⟩
     . omega
     . exact⟨b,h1,h2,h3⟩
    have hblk:callOp Qg (Qp Tryz.prog Qg) 16 0 (some 69) 36 [.gS 2 66 (Yi l0) l0.length 2] [[(4,.cells [.nS]),(5,.cells [.bool false]),(6,.cells [.gS 2 66 (Yi l0) l0.length 2])],[],[(66,.grow l0.length)]]=some (.ret (.gS 0 69 (Qb b) (16*l0.length) 1),[[(4,.cells [.nS]),(5,.cells [.bool false]),(6,.cells [.gS 2 66 (Yi l0) l0.length 2]),(69,.grow (16*l0.length))],[],[(66,.grow l0.length)]]):=
     Qei (x:=(.gS 0 69 (Qb b) (16*l0.length) 1,69,.grow (16*l0.length))) rfl rfl rfl (Qa (frz_ge _ _ _ _ _) rfl) e1 (by
      have h69:Qd [[(4,.cells [.nS]),(5,.cells [.bool false]),(6,.cells [.gS 2 66 (Yi l0) l0.length 2])],[],[(66,.grow l0.length)]] 0 69=none:=rfl
      simp only[Qcd,h69,hg,Yc,and_self,if_true])
    obtain⟨k,hk⟩:∃k,k=256-n*16:=⟨_,rfl⟩;rw[<-hk] at w256;have a3:∀mt dst,Qq Tryz.prog mt 0 (Qd [[(4,.cells [.nS]),(5,.cells [.bool false]),(6,.cells [.gS 2 66 (Yi l0) l0.length 2]),(69,.grow (16*l0.length))],[],[(66,.grow l0.length)]]) dst 26 3 (.gS 0 69 (Qb b) (16*l0.length) 1) (.int .i64 k)=some (.val (.gS 0 69 (Qb (b++zB k)) (16*l0.length+k) 1) (if k=0 then none else some (0,69,.grow (16*l0.length+k)))):=by
     intro mt dst;by_cases k0:k=0
     . rw[if_pos k0,k0];refine(Qvo (.gS 0 69 (Qb b) (16*l0.length) 1) rfl).trans ?_;simp[zB]
     . obtain⟨m,rfl⟩:∃m,k=m+1:=⟨k-1,by omega⟩;rw[Q1b (by omega) rfl,if_neg k0]
    have eq:∀d H,_:=fun d H=>Q0b v l (b++zB k) hv (16*l0.length+k) (by rw[Zsi,Qgc,hb]) 0 69 d H;generalize decide (b++zB k=l)=q at*;have nlg:∀x:V,Qn Tryz.prog 39 [x] 0=some x:=fun x=>by rw[rd39];rfl
    have fin:∀g,AM.frz g 11 (.gS 2 66 (Yi l0) l0.length 2)=some (.iS (Yi l0) l0.length false):=fun g=>by show(Qt (AM.frz g 10) (Yi l0)).map _=_;rw[Qoj g 9 l0];rfl
    by_cases k0:k=0
    . simp only[if_pos k0] at a3;simp only[wA,↓Qc,simprocAttr,wH,wB,ta,Z6,hblk,Q2,a3,eq,w16,w256,len,nlg];obtain⟨fv,rfl⟩:=Qcw hv hl;refine W.opsT (by kernel_rfl) ?_;simp only[wA,↓Qc,simprocAttr];exact W.done (Qk.ret (v:= .tuple [.gS 2 66 (Yi l0) l0.length 2,.bool q]) rfl (Jc (Qa (fin _) (Qa rfl rfl))) ⟨_,_,rfl,fun _=>⟨l0,Q0.mk (Qda l0),hok,hen⟩⟩)
    . simp only[if_neg k0] at a3;simp only[wA,↓Qc,simprocAttr,wH,wB,ta,Z6,hblk,Q2,a3,eq,w16,w256,len,nlg];obtain⟨fv,rfl⟩:=Qcw hv hl;refine W.opsT (by kernel_rfl) ?_;simp only[wA,↓Qc,simprocAttr];exact W.done (Qk.ret (v:= .tuple [.gS 2 66 (Yi l0) l0.length 2,.bool q]) rfl (Jc (Qa (fin _) (Qa rfl rfl))) ⟨_,_,rfl,fun _=>⟨l0,Q0.mk (Qda l0),hok,hen⟩⟩)
end Go.Proofs.YtidniacddkalaaaGreatDoor
namespace Go.Proofs.YtidniacddkalaaaGreatDoor
open Go.AM
attribute [local irreducible] U W
section
variable {bv wv sv mv lv kv ov cv : V} {x : B6}
def Q8t(w:V)(e:Int):Prop:=(e=0/\∃es,Qj4 w es/\Xp es/\es.length<=16)\/(e≠0/\w= .nS)
def Zax(r:V):Prop:=∃w e,r= .tuple [w,.int .i64 e]/\Q8t w e
theorem Zeh(h:Jx bv wv sv mv lv kv ov cv x)(f:x.Fits)(id:Int):Fz Tryz.prog Qg 6 [.agg (Zd bv wv sv mv lv kv ov cv x.p),.int .i64 id] Zax:=by
 refine Qw Tryz.func6 rfl ?_;have fp:=Xu h;obtain⟨m,⟨l,dv,e,rfl,hd,hr⟩,hm⟩:=(Qwx h f id).op (by rfl) (Qa (fp _) (Qa rfl rfl));have hm1:∀s H,_:=fun s H=>hm 6 0 s H rfl;obtain⟨m,⟨b,y,rfl,hb⟩,hm⟩:=(Qyk h f id 0 0).op (by rfl) (Qa (fp _) (Qa rfl (Qa rfl (Qa rfl rfl))));have hm2:∀s H,_:=fun s H=>hm 6 0 s H rfl;obtain⟨m,⟨k,ln,sz,g,rfl,hg⟩,hm⟩:=(Q23 h f id 0).op (by rfl) (Qa (fp _) (Qa rfl (Qa rfl rfl)));have hm3:∀s H,_:=fun s H=>hm 6 0 s H rfl;clear hm;obtain⟨s1,s2,s3,s4,s5,s6,s7,s8⟩:=Bf h;have sd:=Ze hd;have res:∀(w:V) (y:Int) (T:List V) (H:Heap),Q8t w y->T.getD 4 .bad=w->T.getD 5 .bad= .int .i64 y->Qk Tryz.prog Tryz.f6 Zax .ret T H:=by
  intro w y T H hw h1 h2;refine Qk.ret (v:= .tuple [w,.int .i64 y]) ?_ (Jc (Qa (y:=w) ?_ (Qa rfl rfl))) ⟨w,y,rfl,hw⟩
  . show(match Ks Tryz.prog T H [.tmp 4,.tmp 5] with|some [v]=>some v|some vs=>some (V.tuple vs)|none=>none)=_;simp only[Ks,Jv,h1,h2]
  . rcases hw with⟨_,l,hl,_⟩|⟨_,rfl⟩
    . exact hl.frz 10
    . rfl
 have bad:∀(y:Int) (T:List V) (H:Heap),y≠0->T.getD 4 .bad= .nS->T.getD 5 .bad= .int .i64 y->Qk Tryz.prog Tryz.f6 Zax .ret T H:=fun y T H hy h1 h2=>res .nS y T H (.inr ⟨hy,rfl⟩) h1 h2;simp only[Zd,Zu] at hm1 hm2 hm3⊢;cases c1:(e !=0)
 case true=>simp only[wA,↓Qc,simprocAttr,Tryz.ntmps6,ta,wH,wB,hm1,s1,s2,s3,s4,s5,s6,s7,s8,sd,c1];exact W.done (bad e _ _ (by simpa using c1) rfl rfl)
 cases c2:(y==6)
 case true=>
  have sb:b.scalar=true:=by
   rcases hb with⟨_,l,hl,_⟩|⟨_,rfl⟩
   . exact Ze hl
   . rfl
  simp only[wA,↓Qc,simprocAttr,Tryz.ntmps6,ta,wH,wB,hm1,hm2,s1,s2,s3,s4,s5,s6,s7,s8,sd,c1,c2];exact W.done (res .nS 0 _ _ (.inl ⟨rfl,[],Q0.nil,Xp.nil,by simp⟩) rfl rfl)
 rcases hb with⟨rfl,bl,hbl,hbn⟩|⟨hy,rfl⟩
 case inr=>
  have c3:(y !=0)=true:=by simpa using hy
  simp only[wA,↓Qc,simprocAttr,Tryz.ntmps6,ta,wH,wB,hm1,hm2,s1,s2,s3,s4,s5,s6,s7,s8,sd,c1,c2,c3];exact W.done (bad y _ _ hy rfl rfl)
 have sb:=Ze hbl;cases c4:(g !=0)
 case true=>simp only[wA,↓Qc,simprocAttr,Tryz.ntmps6,ta,wH,wB,hm1,hm2,hm3,s1,s2,s3,s4,s5,s6,s7,s8,sd,sb,c1,c2,c4];exact W.done (bad g _ _ (by simpa using c4) rfl rfl)
 cases c5:(k !=2)
 case true=>simp only[wA,↓Qc,simprocAttr,Tryz.ntmps6,ta,wH,wB,hm1,hm2,hm3,s1,s2,s3,s4,s5,s6,s7,s8,sd,sb,c1,c2,c4,c5];exact W.done (bad 250 _ _ (by decide) rfl rfl)
 have er:∀x y,Zp Tryz.prog .rem 3 x y (.int .i64 sz) (.int .i64 16)=some (.int .i64 (sz.tmod 16)):=fun _ _=>rfl;have eq' :∀x y,Zp Tryz.prog .quo 3 x y (.int .i64 sz) (.int .i64 16)=some (.int .i64 ((IntKind.i64).wrap (sz.tdiv 16))):=fun _ _=>rfl;cases c6:(sz.tmod 16 !=0)
 case true=>simp only[wA,↓Qc,simprocAttr,Tryz.ntmps6,ta,wH,wB,hm1,hm2,hm3,s1,s2,s3,s4,s5,s6,s7,s8,sd,sb,c1,c2,c4,c5,er,eq',c6];exact W.done (bad 8 _ _ (by decide) rfl rfl)
 cases c7:decide (sz>256)
 case true=>simp only[wA,↓Qc,simprocAttr,Tryz.ntmps6,ta,wH,wB,hm1,hm2,hm3,s1,s2,s3,s4,s5,s6,s7,s8,sd,sb,c1,c2,c4,c5,er,eq',c6,c7];exact W.done (bad 8 _ _ (by decide) rfl rfl)
 obtain⟨z0,z1⟩:=hg (by simpa using c4);have z2:sz<=256:=by have:=of_decide_eq_false c7;omega
 have zq:sz.tdiv 16=((sz.toNat/16:Nat):Int):=by rw[Int.tdiv_eq_ediv_of_nonneg z0];omega
 have wq:(IntKind.i64).wrap (sz.tdiv 16)=((sz.toNat/16:Nat):Int):=by rw[zq,wrap_i64]<;>omega
 obtain⟨m,⟨w,q,rfl,hq⟩,hm⟩:=(Zd3 b bl hbl hbn (sz.toNat/16) (by omega)).op (by rfl) (Qa (hbl.frz _) (Qa rfl rfl));have hm4:∀s H,_:=fun s H=>hm 6 0 s H rfl;cases q
 . simp only[wA,↓Qc,simprocAttr,Tryz.ntmps6,ta,wH,wB,hm1,hm2,hm3,hm4,s1,s2,s3,s4,s5,s6,s7,s8,sd,sb,c1,c2,c4,c5,er,eq',c6,c7,wq];exact W.done (bad 8 _ _ (by decide) rfl rfl)
 . obtain⟨es,hes,hok,hn⟩:=hq rfl;have sw:=Ze hes;simp only[wA,↓Qc,simprocAttr,Tryz.ntmps6,ta,wH,wB,hm1,hm2,hm3,hm4,s1,s2,s3,s4,s5,s6,s7,s8,sd,sb,sw,c1,c2,c4,c5,er,eq',c6,c7,wq];exact W.done (res w 0 _ _ (.inl ⟨rfl,es,hes,hok,by omega⟩) rfl rfl)
end
end Go.Proofs.YtidniacddkalaaaGreatDoor
namespace Go.Proofs.YtidniacddkalaaaGreatDoor
open Go.AM
attribute [local irreducible] U W
theorem Fz.fix{P:Program}{pol:Pol}{f:FuncId}{args:List V}{R:V->Prop}(h:Fz P pol f args R):∃v,R v/\Fz P pol f args fun x=>x=v:=by obtain⟨a,b,c,h1,h2,h3⟩:=h;exact⟨_,h3,a,b,c,h1,h2,rfl⟩
section
variable {bv wv sv mv lv kv ov cv : V} {x : B6}
theorem Q7a(h:Jx bv wv sv mv lv kv ov cv x)(id:Int)(s:List UInt8){e:Int}(he:e≠0)(hL:Fz Tryz.prog Qg 6 [.agg (Zd bv wv sv mv lv kv ov cv x.p),.int .i64 id] fun r=>r= .tuple [.nS,.int .i64 e]):
 Fz Tryz.prog Qg 17 [.agg (Zd bv wv sv mv lv kv ov cv x.p),.int .i64 id,.str s] fun r=>r= .tuple [.nS,.int .i64 0,.bool false,.int .i64 e]:=by
 refine Qw Tryz.func17 rfl ?_;have fp:=Xu h;obtain⟨m,rfl,hm⟩:=hL.op (by rfl) (Qa (fp _) (Qa rfl rfl));have hm1:∀s H,_:=fun s H=>hm 17 0 s H rfl;obtain⟨s1,s2,s3,s4,s5,s6,s7,s8⟩:=Bf h;have c1:(e !=0)=true:=by simpa using he
 simp only[Zd] at hm1⊢;simp only[wA,↓Qc,simprocAttr,Tryz.ntmps17,ta,wH,wB,hm1,s1,s2,s3,s4,s5,s6,s7,s8,c1];exact W.done (Qk.ret (v:= .tuple [.nS,.int .i64 0,.bool false,.int .i64 e]) rfl rfl rfl)
def RAsk(w:V)(es:List Xo)(s:List UInt8)(r:V):Prop:=∃(n:Nat) (b:Bool),r= .tuple [w,.int .i64 n,.bool b,.int .i64 (Qe1 s)]/\(Qe1 s=0->n=bs (Qaw es s) es.length/\b=Qb0 (Qaw es s) es.length)
theorem Zb0(h:Jx bv wv sv mv lv kv ov cv x)(id:Int)(s:List UInt8)(hs:s.length<=1000000){w:V}{es:List Xo}(hes:Qj4 w es)(hn:es.length<=16)(hL:Fz Tryz.prog Qg 6 [.agg (Zd bv wv sv mv lv kv ov cv x.p),.int .i64 id] fun r=>r= .tuple [w,.int .i64 0]):
 Fz Tryz.prog Qg 17 [.agg (Zd bv wv sv mv lv kv ov cv x.p),.int .i64 id,.str s] (RAsk w es s):=by
 refine Qw Tryz.func17 rfl ?_;have fp:=Xu h;obtain⟨m,rfl,hm⟩:=hL.op (by rfl) (Qa (fp _) (Qa rfl rfl));have hm1:∀s H,_:=fun s H=>hm 17 0 s H rfl;obtain⟨m,hq,hm⟩:=(Qf4 s hs).op (by rfl) rfl;have hm2:∀s H,_:=fun s H=>hm 17 0 s H rfl;rw[hq] at hm2;obtain⟨m,rfl,hm⟩:=(Qzn w es hes (by omega) s).op (by rfl) (Qa (hes.frz _) (Qa rfl rfl));have hm3:∀s H,_:=fun s H=>hm 17 0 s H rfl;obtain⟨s1,s2,s3,s4,s5,s6,s7,s8⟩:=Bf h;have sw:=Ze hes;have res:∀(n:Nat) (b:Bool) (T:List V) (H:Heap),(Qe1 s=0->n=bs (Qaw es s) es.length/\b=Qb0 (Qaw es s) es.length)->T.getD 6 .bad=w->T.getD 7 .bad= .int .i64 n->T.getD 8 .bad= .bool b->T.getD 9 .bad= .int .i64 (Qe1 s)->Qk Tryz.prog Tryz.f17 (RAsk w es s) .ret T H:=by intro n b T H h0 h1 h2 h3 h4;refine Qk.ret (v:= .tuple [w,.int .i64 n,.bool b,.int .i64 (Qe1 s)]) ?_ (Jc (Qa (hes.frz 10) (Qa rfl (Qa rfl (Qa rfl rfl))))) ⟨n,b,rfl,h0⟩;show(match Ks Tryz.prog T H [.tmp 6,.tmp 7,.tmp 8,.tmp 9] with|some [v]=>some v|some vs=>some (V.tuple vs)|none=>none)=_;simp only[Ks,Jv,h1,h2,h3,h4]
 simp only[Zd] at hm1⊢;rcases Qk6 s with hE|hE
 . rw[hE] at hm2;simp only[wA,↓Qc,simprocAttr,Tryz.ntmps17,ta,wH,wB,hm1,hm2,hm3,s1,s2,s3,s4,s5,s6,s7,s8,sw];exact W.done (res _ _ _ _ (fun _=>⟨rfl,rfl⟩) rfl rfl rfl (by rw[hE];rfl))
 . rw[hE] at hm2;simp only[wA,↓Qc,simprocAttr,Tryz.ntmps17,ta,wH,wB,hm1,hm2,s1,s2,s3,s4,s5,s6,s7,s8,sw];exact W.done (res 0 false _ _ (fun h=>absurd (hE.symm.trans h) (by decide)) rfl rfl rfl (by rw[hE];rfl))
theorem Q75(h:Jx bv wv sv mv lv kv ov cv x)(id:Int)(s:List UInt8){e:Int}(he:e≠0)(hL:Fz Tryz.prog Qg 6 [.agg (Zd bv wv sv mv lv kv ov cv x.p),.int .i64 id] fun r=>r= .tuple [.nS,.int .i64 e]):
 Fz Tryz.prog Qg 7 [.agg (Zd bv wv sv mv lv kv ov cv x.p),.int .i64 id,.str s] fun r=>r= .tuple [.int .i64 0,.int .i64 e]:=by
 refine Qw Tryz.func7 rfl ?_;have fp:=Xu h;obtain⟨m,rfl,hm⟩:=(Q7a h id s he hL).op (by rfl) (Qa (fp _) (Qa rfl (Qa rfl rfl)));have hm1:∀s H,_:=fun s H=>hm 7 0 s H rfl;obtain⟨s1,s2,s3,s4,s5,s6,s7,s8⟩:=Bf h;have c1:(e !=0)=true:=by simpa using he
 simp only[Zd] at hm1⊢;simp only[wA,↓Qc,simprocAttr,Tryz.ntmps7,ta,wH,wB,hm1,s1,s2,s3,s4,s5,s6,s7,s8,c1];exact W.done (Qk.ret (v:= .tuple [.int .i64 0,.int .i64 e]) rfl rfl rfl)
noncomputable def Qbd(es:List Xo)(s:List UInt8):Int×Int:=
 if Qe1 s=0 then(if Qb0 (Qaw es s) es.length then((es.getD (bs (Qaw es s) es.length) ([],0)).2,0) else(0,6)) else(0,240)
theorem Zdr(h:Jx bv wv sv mv lv kv ov cv x)(id:Int)(s:List UInt8)(hs:s.length<=1000000){w:V}{es:List Xo}(hes:Qj4 w es)(hn:es.length<=16)(hL:Fz Tryz.prog Qg 6 [.agg (Zd bv wv sv mv lv kv ov cv x.p),.int .i64 id] fun r=>r= .tuple [w,.int .i64 0]):
 Fz Tryz.prog Qg 7 [.agg (Zd bv wv sv mv lv kv ov cv x.p),.int .i64 id,.str s] fun r=>r= .tuple [.int .i64 (Qbd es s).1,.int .i64 (Qbd es s).2]:=by
 refine Qw Tryz.func7 rfl ?_;have fp:=Xu h;obtain⟨m,⟨n,b,rfl,hnb⟩,hm⟩:=(Zb0 h id s hs hes hn hL).op (by rfl) (Qa (fp _) (Qa rfl (Qa rfl rfl)));have hm1:∀s H,_:=fun s H=>hm 7 0 s H rfl;obtain⟨s1,s2,s3,s4,s5,s6,s7,s8⟩:=Bf h;have sw:=Ze hes;simp only[Zd] at hm1⊢;rcases Qk6 s with hE|hE
 . obtain⟨rfl,rfl⟩:=hnb hE;rw[hE] at hm1;have e1:Qbd es s=if Qb0 (Qaw es s) es.length then((es.getD (bs (Qaw es s) es.length) ([],0)).2,0) else(0,6):=if_pos hE
   rw[e1];cases hb:Qb0 (Qaw es s) es.length
   . rw[hb] at hm1;simp only[wA,↓Qc,simprocAttr,Tryz.ntmps7,ta,wH,wB,hm1,s1,s2,s3,s4,s5,s6,s7,s8,sw];exact W.done (Qk.ret (v:= .tuple [.int .i64 0,.int .i64 6]) rfl rfl rfl)
   . obtain⟨hlt,_⟩:=Qui hb;rw[hb] at hm1;generalize bs (Qaw es s) es.length=n at*;have at1:=hes.at (k:= .i64) Tryz.underlying39 Ql8 (by decide) (i:=(n:Int)) (by omega) (by omega);have gt:(Yi es)[(n:Int).toNat*2+1]?=some (.int .i64 (es.getD n ([],0)).2):=by
      have:=congrArg (fun l=>l[1]?) (Qik hlt);simp only[Zrn,Zta] at this;rw[show(n:Int).toNat*2+1=n*2+1 by omega,Zug,Zra hlt];simpa using this
     simp only[wA,↓Qc,simprocAttr,Tryz.ntmps7,ta,wH,wB,hm1,s1,s2,s3,s4,s5,s6,s7,s8,sw,at1,gt];exact W.done (Qk.ret (v:= .tuple [.int .i64 (es.getD n ([],0)).2,.int .i64 0]) rfl rfl rfl)
 . rw[hE] at hm1;have e1:Qbd es s=(0,240):=if_neg (by rw[hE];decide);rw[e1];simp only[wA,↓Qc,simprocAttr,Tryz.ntmps7,ta,wH,wB,hm1,s1,s2,s3,s4,s5,s6,s7,s8,sw];exact W.done (Qk.ret (v:= .tuple [.int .i64 0,.int .i64 240]) rfl rfl rfl)
end
end Go.Proofs.YtidniacddkalaaaGreatDoor
namespace Go.Proofs.YtidniacddkalaaaGreatDoor
open Go.AM
theorem Qkv{es:List Xo}{s:List UInt8}{m:Nat}(h:m<es.length):Qaw es s m=Lib.compareBytes es[m].1 s:=by simp only[Qaw,Zra h]
theorem bs_at{es:List Xo}(hok:Xp es)(k:Nat)(hk:k<es.length):bs (Qaw es es[k].1) es.length=k:=by
 refine Zdb (Zrq hk) (fun m hm=>?_) (fun m h1 h2=>?_)
 . rw[Qkv (by omega),Qnz];have:=Qny hok.2 m (k-m-1) (by omega);simp only[show m+(k-m-1)+1=k by omega] at this;exact this
 . rw[Qkv h2];by_cases e:m=k
   . subst e;rw[(Qgt _ _).2 rfl];decide
   . have:=Qny hok.2 k (m-k-1) (by omega);simp only[show k+(m-k-1)+1=m by omega] at this;have h3:=(Qnz _ _).2 this;rw[Qyb es[k].1 es[m].1];omega
theorem Q6s{es:List Xo}(hok:Xp es)(k:Nat)(hk:k<es.length):Qb0 (Qaw es es[k].1) es.length=true:=by simp only[Qb0,bs_at hok k hk,Zr1,decide_eq_true_eq];exact⟨hk,by rw[Qkv hk,(Qgt _ _).2 rfl]⟩
theorem Q4y{es:List Xo}(hok:Xp es)(k:Nat)(hk:k<es.length):Qbd es es[k].1=(es[k].2,0):=by have h0:=(hok.1 _ (Ztp hk)).1;rw[Qbd,if_pos h0,if_pos (Q6s hok k hk),bs_at hok k hk,Zug,Zra hk];rfl
theorem Q7b{es:List Xo}(s:List UInt8)(h:∀k,(hk:k<es.length)->es[k].1≠s):(Qbd es s).1=0/\(Qbd es s).2≠0:=by
 unfold Qbd;split
 . split
   . rename_i h2;obtain⟨h3,h4⟩:=Qui h2;rw[Qkv h3] at h4;exact absurd ((Qgt _ _).1 h4) (h _ h3)
   . exact⟨rfl,by decide⟩
 . exact⟨rfl,by decide⟩
def Qbh(es:List Xo)(s:List UInt8):Nat->Int
 |0=>0
 |i+1=>match es[i]? with
  |some e=>if e.1=s then e.2 else Qbh es s i
  |none=>Qbh es s i
theorem Qkb{es:List Xo}{s:List UInt8}(h:∀k,(hk:k<es.length)->es[k].1≠s):∀i,Qbh es s i=0
 |0=>rfl
 |i+1=>by
  unfold Qbh;cases he:es[i]? with
  |none=>exact Qkb h i
  |some e=>
   obtain⟨h1,h2⟩:=Zsm.1 he;simp only;rw[if_neg (by rw[<-h2];exact h i h1)];exact Qkb h i
theorem Zdf{es:List Xo}(hok:Xp es){i j:Nat}(hij:i<j)(hj:j<es.length):es[i].1≠es[j].1:=by intro e;have:=Qny hok.2 i (j-i-1) (by omega);simp only[show i+(j-i-1)+1=j by omega] at this;have h3:=(Qnz _ _).2 this;rw[(Qgt _ _).2 e] at h3;omega
theorem Qwk{es:List Xo}(hok:Xp es)(k:Nat)(hk:k<es.length):∀i,k<i->i<=es.length->Qbh es es[k].1 i=es[k].2
 |0,h,_=>absurd h (by omega)
 |i+1,h,h2=>by
  unfold Qbh;rw[Zra (by omega:i<es.length)];simp only;by_cases e:i=k
  . subst e;rw[if_pos rfl]
  . rw[if_neg (fun h' =>Zdf hok (by omega:k<i) (by omega) h'.symm)];exact Qwk hok k hk i (by omega) (by omega)
theorem Q7t{es:List Xo}(hok:Xp es)(s:List UInt8):((((Qbd es s).2==0)==decide (Qbh es s es.length>0))&&((Qbd es s).1==Qbh es s es.length))=true:=by
 by_cases h:∃k,∃hk:k<es.length,es[k].1=s
 . obtain⟨k,hk,rfl⟩:=h;have h1:=(hok.1 _ (Ztp hk)).2.1;rw[Q4y hok k hk,Qwk hok k hk es.length hk (Zrf _)];simp only[beq_self_eq_true,Zs1];rw[Zum (by omega)];rfl
 . have h' :∀k,(hk:k<es.length)->es[k].1≠s:=fun k hk e=>h ⟨k,hk,e⟩;obtain⟨h1,h2⟩:=Q7b s h';rw[Qkb h',h1];have:((Qbd es s).2==0)=false:=by simpa using h2
   rw[this];rfl
end Go.Proofs.YtidniacddkalaaaGreatDoor
end
