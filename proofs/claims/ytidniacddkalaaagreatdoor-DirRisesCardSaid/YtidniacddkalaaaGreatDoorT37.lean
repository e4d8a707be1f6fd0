/- This file holds in one the texts F8, F12, F10, F14; each says at its head what it proves. -/
import Derived.Test.YtidniacddkalaaaGreatDoorT25
import Derived.Test.YtidniacddkalaaaGreatDoorT31
import Derived.Test.YtidniacddkalaaaGreatDoorT34
import Derived.Test.YtidniacddkalaaaGreatDoorT35
import Derived.Test.YtidniacddkalaaaGreatDoorT36
set_option linter.unusedSimpArgs false
set_option linter.unusedVariables false
namespace Go.Proofs.YtidniacddkalaaaGreatDoor
section
set_option maxRecDepth 100000
open Go.AM
attribute [local irreducible] U W
def Q36(n:Nat)(x:V):Prop:=∃(v:V) (e:Int),x= .tuple [v,.int .i64 e]/\((e=0/\∃l:List Zq,Jn v l/\l.length=n/\∀p∈l,Yp p=true)\/(e≠0/\v= .nS))
theorem Q56(l m:List Zq):Zg (l++m)=Zg l++Zg m:=by simp[Zg]
theorem Qaq:∀l:List Zq,(Zg l).all Qje=true
 |[]=>rfl
 |p::l=>by
  have e:Zg (p::l)=p.cells++Zg l:=rfl;rw[e,Zte,Qaq l];rfl
theorem Qek{H:Heap}{fr s st f r:Nat}{t t0:List V}(hg:Qd H fr s=some (.loop st (some none) f r t0))(hst:st≠1)(h1:Qi (Je fr s) t=false)(h2:Qz (Je fr s) (H.modify fr (Jb fun x=>[s].contains x))=true):
 Kx fr s t H=some (.ret,t,H.modify fr (Jb fun x=>[s].contains x)):=by
 simp only[Kx,hg,if_neg hst,h1,h2,Zre,if_false,if_true]
def Bh(a b o:AM.O):AM.Frame:=[(2,a),(3,b),(1000004,o)]
def Qrw(T:List V):Nat->Heap->Prop
 |0,H=>H=[Bh (.cells [.nS]) (.cells [.int .i64 0]) (.loop 0 none 132 4 T),[]]
 |j+1,H=>∃(l:List Zq) (p:Zq),l.length=j+1/\(∀p∈l,Yp p=true)/\H=[Bh (.cells [.gS 2 24 (Zg l) (j+1) 5]) (.cells [.int .i64 0]) (.loop 0 none 132 4 T),[],[(5,.cells p.cells),(24,.grow (j+1))]]
def Q4z(T:List V)(H:Heap):Prop:=(∃e:Int,e≠0/\∃R,H=Bh (.cells [.nS]) (.cells [.int .i64 e]) (.loop 2 (some none) 132 4 T)::[]::R)\/Qrw T 16 H
theorem Qc4{b:Nat}{v:V}{H:Heap}(h:Qz (fun f _=>Nat.ble b f) (H.take b)=false):Bb b v H=H:=by unfold Bb;rw[h,Bool.and_false];rfl
theorem Qgy{n:Nat}(hn:1<=n){T:List V}(hr:Qi (fun f _=>Nat.ble 1 f) T=false){a b:AM.O}{st:Nat}{p:Option (Option Nat)}(ha:a.refs (fun f _=>Nat.ble n f)=false)(hb:b.refs (fun f _=>Nat.ble n f)=false):
 Zb (fun f _=>Nat.ble n f) (Bh a b (.loop st p 132 4 T))=true:=by
 have h0:(O.loop st p 132 4 T).refs (fun f _=>Nat.ble n f)=false:=J9 (Qb3 hn) T hr;simp only[Bh,Zb,ha,hb,h0];rfl
theorem Qc2:∀{c:List V},c.all Qje=true->Qx c=true
 |[],_=>rfl
 |x::c,h=>by
  simp only[List.all_cons,Zr1] at h;have hx:x.pure=true:=by cases x<;>first|rfl|(cases h.1)
  simp only[Qx,hx,Qc2 h.2,Zts]
theorem byP:byt Tryz.prog 31=some 24:=by kernel_rfl
theorem Q1j(T:List V)(hT:T.length=26)(h2:T.getD 2 .bad= .ptr 0 2 0)(h3:T.getD 3 .bad= .ptr 0 3 0)(hr:Qi (fun f _=>Nat.ble 1 f) T=false)(j:Nat)(hj:j<16)(H:Heap)(hI:Qrw T j H)(w:V)(b:List UInt8)(hw:Qf w b)(hb:b.length=16):
 ∃x H',Qp Tryz.prog Qg none [.yield 0 1000004,w] H=some (.ret (.bool x),H')/\(x=true->Qrw T (j+1) H')/\(x=false->Q4z T H'):=by
 obtain⟨m,⟨p,e,rfl,hp⟩,hm⟩:=(Q01 w b hw hb).op (by rfl) (Qa (hw.frz _) rfl);have hm1:∀fr s H,_:=fun fr s H=>hm 132 fr s H rfl;have mt:∀s,s<2000000->Qg.mt 132 s=false:=fun s h=>Qch h rfl;have sc:∀g,Ql g 5 (.iS p.cells 1 true)=some (p.cells,1):=fun g=>by simp[Ql,Zq.cells]
 have pn:∀q,Qi q (Zg [p])=false:=fun q=>Qcz q (Qaq _);have ld:Qn Tryz.prog 31 p.cells 0=some (.agg p.cells):=by rw[rd31,if_pos (by simp[Zq.cells])];rfl
 have wf1:∀(a b:AM.O) (st:Nat×Option (Option Nat)),a.refs (fun f _=>Nat.ble 2 f)=false->b.refs (fun f _=>Nat.ble 2 f)=false->WF [Bh a b (.loop st.1 st.2 132 4 T),[]]:=fun a b st ha hb=>by show Qz (fun f _=>Nat.ble 2 f) _=true;simp only[Qz,Zb,Qgy (by omega) hr ha hb,Zts]
 have wf3:∀(a b:AM.O) (n:Nat) (st:Nat×Option (Option Nat)) {c0:List V},(∀q,Qi q c0=false)->a.refs (fun f _=>Nat.ble 3 f)=false->b.refs (fun f _=>Nat.ble 3 f)=false->WF [Bh a b (.loop st.1 st.2 132 4 T),[],[(5,.cells c0),(24,.grow n)]]:=fun a b n st c0 hc ha hb=>by show Qz (fun f _=>Nat.ble 3 f) _=true;have h0:(O.cells c0).refs (fun f _=>Nat.ble 3 f)=false:=hc _;simp only[Qz,Zb,Qgy (by omega) hr ha hb,h0];rfl
 cases j with
 |zero=>
  cases hI;have g0:Qd [Bh (.cells [.nS]) (.cells [.int .i64 0]) (.loop 1 none 132 4 T),[],[(5,.cells p.cells)]] 2 24=none:=rfl;have ap:Qq Tryz.prog (Qg.mt 132) 2 (Qd [Bh (.cells [.nS]) (.cells [.int .i64 0]) (.loop 1 none 132 4 T),[],[(5,.cells p.cells)]]) (some 24) 55 55 .nS (.iS p.cells 1 true)=some (.val (.gS 2 24 (Zg [p]) 1 5) (some (2,24,.grow 1))):=by rw[Qbq Tryz.underlying55 Qqa byP zc31 rfl Tryz.underlying55 (sc _) (by decide) (by decide),Xc (mt _ (by decide)) rfl g0];rfl
  obtain⟨r,H3,h1,x,rfl,h5⟩:=B8 (P:=Tryz.prog) (pol:=Qg) (fo:=0) (so:=1000004) (args:=[w]) (H:=[Bh (.cells [.nS]) (.cells [.int .i64 0]) (.loop 0 none 132 4 T),[]]) (p:=none) (fL:=132) (rid:=4) (t0:=T)
   (R:=fun r H' =>∃x,r= .ret (.bool x)/\(x=true->Qrw T 1 H')/\(x=false->Q4z T H')) rfl (X9 Tryz.func132 rfl rfl) rfl (by
     change W (U _ _ _ _ _ _ _ .normal (T.set 12 _) _) _;simp only[wA,↓Qc,simprocAttr,wH,wB,ta,Yo,Yq,Zs5,hT,h2,h3,Nat.reduceBEq];refine W.done ⟨rfl,none,132,4,T,rfl,?_⟩;simp only[Bh,Zq.cells] at ap ld hm1 sc⊢;rcases hp with⟨rfl,ok⟩|⟨he,rfl⟩
     . simp only[wA,↓Qc,simprocAttr,wH,wB,ta,Yo,Yq,Zs5,hT,h2,h3,Nat.reduceBEq,hm1,ld,Q2,ap,mt,Tryz.underlying55];refine W.done ⟨_,_,rfl,true,rfl,fun _=>⟨[p],p,rfl,Zuh.2 ⟨ok,(fun _ h=>by cases h)⟩,?_⟩,(fun h=>by cases h)⟩;exact Qc4 rfl
     . have c1:(e !=0)=true:=by simpa using he
       simp only[wA,↓Qc,simprocAttr,wH,wB,ta,Yo,Yq,Zs5,hT,h2,h3,Nat.reduceBEq,hm1,c1];refine W.done ⟨_,_,rfl,false,rfl,(fun h=>by cases h),fun _=> .inl ⟨e,he,[],?_⟩⟩
       exact Zl (H:=[Bh (.cells [.nS]) (.cells [.int .i64 e]) (.loop 2 (some none) 132 4 T),[]]) (G:=[[(5,.cells J3.cells)]]) rfl (wf1 _ _ (2,some none) rfl rfl))
  exact⟨x,H3,h1,h5⟩
 |succ j=>
  obtain⟨l,p0,hl,hok,rfl⟩:=hI;have pl:∀q,Qi q (Zg (l++[p]))=false:=fun q=>Qcz q (Qaq _);have pp:Qx (Zg l)=true:=Qc2 (Qaq _);generalize hR:[Bh (.cells [.gS 2 24 (Zg l) (j+1) 5]) (.cells [.int .i64 0]) (.loop 1 none 132 4 T),[],[(5,.cells p0.cells),(24,.grow (j+1))],[(5,.cells p.cells)]]=HH;have g0:Qd HH 2 24=some (.grow (j+1)):=by rw[<-hR];rfl
  have ap:Qq Tryz.prog (Qg.mt 132) 3 (Qd HH) (some 24) 55 55 (.gS 2 24 (Zg l) (j+1) 5) (.iS p.cells 1 true)=some (.val (.gS 2 24 (Zg (l++[p])) (j+1+1) 5) (some (2,24,.grow (j+1+1)))):=by rw[Qa2 Tryz.underlying55 Qqa byP zc31 rfl Tryz.underlying55 (sc _) (by decide) (Jj (by omega) (by omega)) rfl rfl g0,Q56];rfl
  rw[<-hR] at ap;obtain⟨r,H3,h1,x,rfl,h5⟩:=B8 (P:=Tryz.prog) (pol:=Qg) (fo:=0) (so:=1000004) (args:=[w]) (H:=[Bh (.cells [.gS 2 24 (Zg l) (j+1) 5]) (.cells [.int .i64 0]) (.loop 0 none 132 4 T),[],[(5,.cells p0.cells),(24,.grow (j+1))]]) (p:=none) (fL:=132) (rid:=4) (t0:=T)
   (R:=fun r H' =>∃x,r= .ret (.bool x)/\(x=true->Qrw T (j+1+1) H')/\(x=false->Q4z T H')) rfl (X9 Tryz.func132 rfl rfl) rfl (by
     change W (U _ _ _ _ _ _ _ .normal (T.set 12 _) _) _;simp only[wA,↓Qc,simprocAttr,wH,wB,ta,Yo,Yq,Zs5,hT,h2,h3,Nat.reduceBEq];refine W.done ⟨rfl,none,132,4,T,rfl,?_⟩;clear hR g0;have hc0:∀q,Qi q p0.cells=false:=fun q=>rfl;generalize hP0:p0.cells=c0 at*;simp only[Bh,Zq.cells] at ap ld hm1 sc⊢;rcases hp with⟨rfl,ok⟩|⟨he,rfl⟩
     . simp only[wA,↓Qc,simprocAttr,wH,wB,ta,Yo,Yq,Zs5,hT,h2,h3,Nat.reduceBEq,hm1,ld,Q2,ap,mt,Tryz.underlying55];refine W.done ⟨_,_,rfl,true,rfl,fun _=>⟨l++[p],p0,by simp[hl],fun q hq=>?_,?_⟩,(fun h=>by cases h)⟩
       . rcases Zr5.1 hq with h|h
         . exact hok q h
         . rw[Zr0.1 h];exact ok
       . rw[hP0];exact Zl (H:=[Bh (.cells [.gS 2 24 (Zg (l++[p])) (j+1+1) 5]) (.cells [.int .i64 0]) (.loop 0 none 132 4 T),[],[(5,.cells c0),(24,.grow (j+1+1))]]) (G:=[[(5,.cells _)]]) rfl (wf3 _ _ _ (0,none) hc0 (by simp only[O.refs,Qi,V.refs,pl];rfl) rfl)
     . have c1:(e !=0)=true:=by simpa using he
       simp only[wA,↓Qc,simprocAttr,wH,wB,ta,Yo,Yq,Zs5,hT,h2,h3,Nat.reduceBEq,hm1,c1];refine W.done ⟨_,_,rfl,false,rfl,(fun h=>by cases h),fun _=> .inl ⟨e,he,[[(5,.cells c0),(24,.grow (j+1))]],?_⟩⟩
       exact Zl (H:=[Bh (.cells [.nS]) (.cells [.int .i64 e]) (.loop 2 (some none) 132 4 T),[],[(5,.cells c0),(24,.grow (j+1))]]) (G:=[[(5,.cells _)]]) rfl (wf3 _ _ _ (2,some none) hc0 rfl rfl))
  exact⟨x,H3,h1,h5⟩
theorem Q5e(v:V)(l:List UInt8)(hv:Qf v l)(hl:l.length=256)(T:List V)(hT:T.length=26)(h2:T.getD 2 .bad= .ptr 0 2 0)(h3:T.getD 3 .bad= .ptr 0 3 0)(hr:Qi (fun f _=>Nat.ble 1 f) T=false):
 CW Tryz.prog Qg 58 [.yield 0 1000004,.iptr [v] 0,.iptr [.int .i64 16] 0] [Bh (.cells [.nS]) (.cells [.int .i64 0]) (.loop 0 none 132 4 T)] fun r H' =>r= .ret (.tuple [])/\
  ((∃e:Int,e≠0/\H' =[Bh (.cells [.nS]) (.cells [.int .i64 e]) (.loop 2 (some none) 132 4 T)])\/
   (∃(ps:List Zq) (p0:Zq),ps.length=16/\(∀p∈ps,Yp p=true)/\H' =[Bh (.cells [.gS 2 24 (Zg ps) 16 5]) (.cells [.int .i64 0]) (.loop 0 none 132 4 T),[],[(5,.cells p0.cells),(24,.grow 16)]])):=by
 refine(Qsq v l hv (by omega) 16 (by omega) (by omega) 16 hl 0 1000004 [Bh (.cells [.nS]) (.cells [.int .i64 0]) (.loop 0 none 132 4 T)] (Qrw T) (Q4z T) rfl ?_ ?_).mono ?_
 . intro j H hj hI w hw;exact Q1j T hT h2 h3 hr j hj H hI w _ hw (by simp;omega)
 . exact fun H h=> .inr h
 rintro r H2 ⟨rfl,HE,⟨e,he,R,rfl⟩|⟨ps,p0,hps,hok,rfl⟩,rfl⟩
 . refine⟨rfl,.inl ⟨e,he,Zl (H:=[Bh (.cells [.nS]) (.cells [.int .i64 e]) (.loop 2 (some none) 132 4 T)]) (G:=[]::R) rfl ?_⟩⟩;show Qz (fun f _=>Nat.ble 1 f) _=true;have:=Qgy (a:= .cells [.nS]) (b:= .cells [.int .i64 e]) (st:=2) (p:=some none) (Zrf 1) hr rfl rfl;simp only[Qz,this,Zts]
 . exact⟨rfl,.inr ⟨ps,p0,hps,hok,Qc4 rfl⟩⟩
theorem Q4b(v:V)(l:List UInt8)(hv:Qf v l)(hl:l.length=256):Fz Tryz.prog Qg 132 [v] (Q36 16):=by
 refine Qw Tryz.func132 rfl ?_;obtain⟨m,rfl,hm⟩:=(Qpi v l hv 16 (by omega)).op (by rfl) (Qa (hv.frz _) rfl);have hm1:∀s H,callOp Qg (Qp Tryz.prog Qg) 132 0 s 34 [v,.int .i64 16] H=_:=fun s H=>hm 132 0 s H rfl;have len:=hv.len Tryz.underlying26;rw[hl] at len;have nr:∀q,v.refs q=false:=fun q=>hv.noRefs q;simp only[wA,↓Qc,simprocAttr,Tryz.ntmps132,ta,wH,wB,len,hm1];refine W.rfunc (rid:=4) rfl rfl rfl ?_;refine(Q5e v l hv hl _ rfl rfl rfl ?_).mono ?_
 . simp only[Qi,V.refs,nr];rfl
 rintro r H2 ⟨rfl,⟨e,he,rfl⟩|⟨ps,p0,hps,hok,rfl⟩⟩
 . refine⟨_,rfl,?_⟩;rw[Qek (st:=2) (f:=132) (r:=4) rfl (by decide) (by simp only[Qi,V.refs,nr];rfl) rfl];have hH:∀T,List.modify [Bh (.cells [.nS]) (.cells [.int .i64 e]) (.loop 2 (some none) 132 4 T)] 0 (Jb fun x=>[Qv 4].contains x)=[[(2,O.cells [.nS]),(3,.cells [.int .i64 e])]]:=fun T=>rfl;rw[hH];simp only[wA,↓Qc,simprocAttr,wH,wB,ta,Z6];exact W.done (Qk.ret (v:= .tuple [.nS,.int .i64 e]) rfl rfl ⟨_,e,rfl,.inr ⟨he,rfl⟩⟩)
 . refine⟨_,rfl,?_⟩;have pn:=Qaq ps;have pr:∀q,Qi q (Zg ps)=false:=fun q=>Qcz q pn;have c0:∀q,Qi q p0.cells=false:=fun q=>rfl;generalize p0.cells=c at*;have hH:∀T G,List.modify (Bh (.cells [.gS 2 24 (Zg ps) 16 5]) (.cells [.int .i64 0]) (.loop 0 none 132 4 T)::G) 0 (Jb fun x=>[Qv 4].contains x)=[(2,O.cells [.gS 2 24 (Zg ps) 16 5]),(3,.cells [.int .i64 0])]::G:=fun T G=>rfl;rw[Qbg (st:=0) (f:=132) (r:=4) rfl (by decide) (by simp only[Qi,V.refs,nr];rfl) (by
    rw[hH]
    simp only[Qz,Zb,O.refs,Qi,V.refs,pr,c0];rfl)]
   rw[hH];simp only[wA,↓Qc,simprocAttr,wH,wB,ta,Z6];have fz:∀g,AM.frz g 11 (.gS 2 24 (Zg ps) 16 5)=some (.iS (Zg ps) 16 false):=fun g=>by show(Qt (AM.frz g 10) (Zg ps)).map _=_;rw[Qde g 9 pn];rfl
   exact W.done (Qk.ret (v:= .tuple [.gS 2 24 (Zg ps) 16 5,.int .i64 0]) rfl (Jc (Qa (fz _) (Qa rfl rfl))) ⟨_,0,rfl,.inl ⟨rfl,ps,by have:=Q0.mk (esz:=5) (full:=false) (Br ps);unfold Jn;rw[hps] at this⊢;exact this,hps,hok⟩⟩)
theorem Bu{esz n:Nat}{v:V}{cells:List V}(h:Q0 esz v cells n):v.cells=some [v]:=by obtain⟨_,⟨rfl,_⟩|⟨f,rfl⟩⟩:=h<;>rfl
theorem Qzi(l:List Int)(k:Nat):(Qr l).drop k=Qr (l.drop k):=by simp[Qr]
theorem Qwj(l:List Int)(k:Nat):(Qr l).take k=Qr (l.take k):=by simp[Qr]
theorem cut3S{P:Program}{u e:TypeId}{v:V}{cells:List V}{esz n:Nat}(hu:P.underlying u=some (.slice e))(hs:sz P e=some esz)(h:Q0 esz v cells n){a b:Nat}(h1:a<=b)(h2:b<=n):
 ∃w,(∀g,Zh P g u v (some (.int .i64 a)) (some (.int .i64 b)) (some (.int .i64 b))=some w)/\Q0 esz w ((cells.drop (a*esz)).take ((b-a)*esz)) (b-a):=by
 have ol:∀x:Nat,Yj (some (.int .i64 x))=some (some (x:Int)):=fun x=>rfl;obtain⟨hl,⟨rfl,h0⟩|⟨f,rfl⟩⟩:=h
 . have hb:b=0:=by omega
   have ha:a=0:=by omega
   subst hb ha;refine⟨.nS,fun g=>?_,?_⟩
   . simp only[Zh,ol,hu,hs,Xs];rfl
   . rw[Zt5,Nat.zero_mul,List.take_zero];exact Q0.nil
 . refine⟨.iS ((cells.drop (a*esz)).take ((b-a)*esz)) (b-a) true,fun g=>?_,Q0.mk ?_⟩
   . simp only[Zh,ol,hu,hs,Qj9,hl,if_true,Xs,Zs3];rw[if_pos ⟨by omega,by omega,by omega,by omega,by omega,by omega,by simp⟩];simp
   . have e1:(b-a)*esz=b*esz-a*esz:=Nat.sub_mul b a esz;have e2:b*esz<=n*esz:=Zsx esz h2;have e3:a*esz<=b*esz:=Zsx esz h1;rw[Zsv,Zsw,hl];omega
theorem Q6d(v:V)(l:List Int)(hv:Ke v l)(k:Nat)(hk:0<k):Fz Tryz.prog Qg 52 [v,.int .i64 k] fun r=>r= .func (.func 93) [] [.iptr [v] 0,.iptr [.int .i64 k] 0]:=by
 refine Qw Tryz.func52 rfl ?_;have c1:v.cells=some [v]:=Bu hv;have c2:decide ((k:Int)<1)=false:=by simp;omega
 simp only[wA,↓Qc,simprocAttr,Tryz.ntmps52,ta,wH,wB,c1,c2];have hf:frz (Qd [[(2,O.cells [v]),(3,O.cells [.int .i64 k])]]) depth (.func (.func 93) [] [.ptr 0 2 0,.ptr 0 3 0])=some (.func (.func 93) [] [.iptr [v] 0,.iptr [.int .i64 k] 0]):=by
  have e:=Q0.frz (g:=Qd [[(2,O.cells [v]),(3,O.cells [.int .i64 k])]]) hv 9;have e1:frz (Qd [[(2,O.cells [v]),(3,O.cells [.int .i64 k])]]) 11 (.ptr 0 2 0)=some (.iptr [v] 0):=by show(Qt (frz (Qd [[(2,O.cells [v]),(3,O.cells [.int .i64 k])]]) 10) [v]).map _=_;rw[Qa e rfl];rfl
  show(match Qt (frz _ 11) [],Qt (frz _ 11) [.ptr 0 2 0,.ptr 0 3 0] with|some a,some b=>some (V.func _ a b)|_,_=>none)=_;rw[Qa e1 (Qa (y:= .iptr [.int .i64 k] 0) rfl rfl)];rfl
 exact W.done (Qk.ret (v:= .func (.func 93) [] [.ptr 0 2 0,.ptr 0 3 0]) rfl hf rfl)
theorem Q5d(v:V)(l:List Int)(hv:Ke v l)(hl:l.length<=281474976710656)(k:Nat)(hk:0<k)(hk2:k<=281474976710656)(m:Nat)(hm:l.length=k*m)(fo so:Nat)(H0:Heap)(I:Nat->Heap->Prop)(S:Heap->Prop)(h0:I 0 (H0++[[]]))
 (step:∀j H,j<m->I j H->∀w,Ke w ((l.drop (k*j)).take k)->∃b H',Qp Tryz.prog Qg none [.yield fo so,w] H=some (.ret (.bool b),H')/\(b=true->I (j+1) H')/\(b=false->S H'))(last:∀H,I m H->S H):
 CW Tryz.prog Qg 93 [.yield fo so,.iptr [v] 0,.iptr [.int .i64 k] 0] H0 fun r H' =>r= .ret (.tuple [])/\∃HE,S HE/\H' =Bb H0.length (.tuple []) HE:=by
 refine Kb Tryz.func93 rfl ?_;have len:=hv.len Tryz.underlying32;simp only[wA,↓Qc,simprocAttr,Tryz.ntmps93,ta,wH,wB];refine W.ul ?_;refine W.loop (fun(j:Nat) t H=>Yf [0,1,2,4] t 0=Q90 (.yield fo so) (.iptr [v] 0) (.iptr [.int .i64 k] 0) (.int .i64 ((k*j:Nat):Int))/\j<=m/\I j H) (fun j=>m-j) ?_ 0 ⟨rfl,Zt2 _,h0⟩;rintro j t H ⟨ht,hj,hI⟩;refine⟨_,_,Ji (kt:=[0,1,2,4]) rfl rfl,?_⟩;rw[ht];simp only[Q90];by_cases h:j<m
 . have hle:k*j+k<=l.length:=by
    have:k*(j+1)<=k*m:=Nat.mul_le_mul_left k h;rw[Nat.mul_succ] at this;omega
   have c1:decide (((k*j:Nat):Int)<l.length)=true:=by simp only[decide_eq_true_eq];omega
   obtain⟨w1,sl1,hw1⟩:=Q0.cut (P:=Tryz.prog) Tryz.underlying32 sz3 hv (some ((k*j:Nat):Int)) none (by simp only[Zs3];omega) (by simp only[Zs3,Zsu];omega) (by simp only[Zsu];omega);have len1:=hw1.len Tryz.underlying32;have e1:((none:Option Int).getD l.length).toNat-((some ((k*j:Nat):Int)).getD 0).toNat=l.length-k*j:=by simp only[Zs3,Zsu,Ztx]
   rw[e1] at len1;simp only[Zrb,Ztc] at sl1;have mn:(if((l.length-k*j:Nat):Int)<(k:Int) then((l.length-k*j:Nat):Int) else(k:Int))=k:=if_neg (by omega);have w2:(IntKind.i64).wrap (((k*j:Nat):Int)+k)=((k*j+k:Nat):Int):=by rw[wrap_i64]<;>omega
   obtain⟨w3,sl3,hw3⟩:=cut3S (P:=Tryz.prog) Tryz.underlying32 sz3 hv (a:=k*j) (b:=k*j+k) (by omega) hle;rw[Nat.add_sub_cancel_left,Zsd,Zsd,Qzi,Qwj] at hw3;have hw3:Ke w3 ((l.drop (k*j)).take k):=by
    have:((l.drop (k*j)).take k).length=k:=by simp;omega
    unfold Ke;rw[this];exact hw3
   obtain⟨b,H',st,hT,hF⟩:=step j H h hI w3 hw3;have e2:k*(j+1)=k*j+k:=Nat.mul_succ k j;generalize hP:(k*j:Nat)=p at*;generalize hQ:(p+k:Nat)=q at*;simp only[wA,↓Qc,simprocAttr,ta,wH,wB,c1,len,len1,sl1,sl3,mn,w2,st,Z6,Qdt];refine W.opsK (by kernel_rfl) ?_;cases b
   . simp only[wA,↓Qc,simprocAttr,ta,wH,wB,c1,len,len1,sl1,sl3,mn,w2,st,Z6,Qdt];refine W.done ?_;simp only[wA,↓Qc,simprocAttr];exact W.done (End.ret (v:= .tuple []) rfl ⟨rfl,_,hF rfl,rfl⟩)
   . simp only[wA,↓Qc,simprocAttr,ta,wH,wB,c1,len,len1,sl1,sl3,mn,w2,st,Z6,Qdt];refine W.done ⟨j+1,⟨?_,h,hT rfl⟩,by omega⟩;rw[e2];rfl
 . have hjm:j=m:=by omega
   subst hjm;have c1:decide (((k*j:Nat):Int)<l.length)=false:=by simp only[decide_eq_false_iff_not];omega
   simp only[wA,↓Qc,simprocAttr,ta,wH,wB,len,c1];refine W.done ?_;simp only[wA,↓Qc,simprocAttr];exact W.done (End.normal (v:= .tuple []) rfl ⟨rfl,_,last _ hI,rfl⟩)
theorem Qci{t:List V}{i:Nat}{x:V}(h:i<t.length):(t.set i x)[i]?=some x:=by simp[h]
theorem Qce{t:List V}{i j:Nat}{x:V}(h:(i==j)=false):(t.set i x)[j]?=t[j]?:=by
 have:i≠j:=by simpa using h
 simp[Zs6,this]
def Bg:List Int->Bool
 |a::b::r=>(!decide (a<0)&&!decide (a>=b))&&Bg r
 |_=>true
def Qcf(T:List V)(st:Nat)(p:Option (Option Nat)):Heap:=[[(2,.cells [.bool false]),(1000002,.loop st p 28 2 T)],[]]
theorem Qtq(T:List V)(hT:T.length=20)(h2:T.getD 2 .bad= .ptr 0 2 0)(hr:Qi (fun f _=>Nat.ble 1 f) T=false)(a b:Int)(w:V)(hw:Ke w [a,b]):
 ∃x H',Qp Tryz.prog Qg none [.yield 0 1000002,w] (Qcf T 0 none)=some (.ret (.bool x),H')/\(x=true->(!decide (a<0)&&!decide (a>=b))=true/\H' =Qcf T 0 none)/\(x=false->(!decide (a<0)&&!decide (a>=b))=false/\H' =Qcf T 2 (some none)):=by
 have at0:=Q0.at (P:=Tryz.prog) (k:= .i64) Tryz.underlying32 sz3 (by decide) hw (i:=0) (by decide) (by simp);have at1:=Q0.at (P:=Tryz.prog) (k:= .i64) Tryz.underlying32 sz3 (by decide) hw (i:=1) (by decide) (by simp);have ld0:(Qr [a,b])[0]?=some (.int .i64 a):=rfl;have ld1:(Qr [a,b])[1]?=some (.int .i64 b):=rfl;have cl:∀(st:Nat) (p:Option (Option Nat)),WF (Qcf T st p):=fun st p=>by have h0:(O.loop st p 28 2 T).refs (fun f _=>Nat.ble 2 f)=false:=J9 (Qb3 (by omega)) T hr;show Qz (fun f _=>Nat.ble 2 f) _=true;simp only[Qcf,Qz,Zb,h0];rfl
 obtain⟨r,H3,h1,x,rfl,h5⟩:=B8 (P:=Tryz.prog) (pol:=Qg) (fo:=0) (so:=1000002) (args:=[w]) (H:=Qcf T 0 none) (p:=none) (fL:=28) (rid:=2) (t0:=T)
  (R:=fun r H' =>∃x,r= .ret (.bool x)/\(x=true->(!decide (a<0)&&!decide (a>=b))=true/\H' =Qcf T 0 none)/\(x=false->(!decide (a<0)&&!decide (a>=b))=false/\H' =Qcf T 2 (some none))) rfl (X9 Tryz.func28 rfl rfl) rfl (by
    change W (U _ _ _ _ _ _ _ .normal (T.set 6 _) _) _;simp only[Qcf];simp only[wA,↓Qc,simprocAttr,wH,wB,ta,Yo,Yq,Qci,Qce,Zs5,hT,h2,Nat.reduceBEq];refine W.done ⟨rfl,none,28,2,T,rfl,?_⟩;simp only[wA,↓Qc,simprocAttr,wH,wB,ta,Yo,Yq,Qci,Qce,Zs5,hT,h2,Nat.reduceBEq,at0,at1,ld0,ld1]
    repeat' ((first|refine W.guardF ?_ ?_|refine W.guardT ?_ ?_|refine W.guardXF ?_ ?_|refine W.guardXT ?_ ?_|refine W.ite ?_ ?_|refine W.opsK1 (by kernel_rfl) ?_)<;>intro h<;>simp only[wA,↓Qc,simprocAttr,h,wH,wB,ta,Yo,Yq,Qci,Qce,Zs5,hT,h2,Nat.reduceBEq,at0,at1,ld0,ld1])
    all_goals first
     |exact W.done ⟨_,_,rfl,true,rfl,(fun _=>by first|exact⟨rfl,Zl (H:=Qcf T 0 none) (G:=[[]]) rfl (cl _ _)⟩|exact Zl (H:=Qcf T 0 none) (G:=[[]]) rfl (cl _ _)),(fun h=>by cases h)⟩
     |exact W.done ⟨_,_,rfl,false,rfl,(fun h=>by cases h),fun _=>by first|exact⟨rfl,Zl (H:=Qcf T 2 (some none)) (G:=[[]]) rfl (cl _ _)⟩|exact Zl (H:=Qcf T 2 (some none)) (G:=[[]]) rfl (cl _ _)⟩)
 exact⟨x,H3,h1,h5⟩
theorem Q9g{l:List Int}{j:Nat}{a b:Int}{r:List Int}(h:l.drop (2*j)=a::b::r):l.drop (2*(j+1))=r:=by
 have:l.drop (2*(j+1))=(l.drop (2*j)).drop 2:=by rw[Zsh];congr 1
 rw[this,h];rfl
theorem Qxu(v:V)(l:List Int)(hv:Ke v l)(m:Nat)(hl:l.length=2*m)(hm:m<=1000)(T:List V)(hT:T.length=20)(h2:T.getD 2 .bad= .ptr 0 2 0)(hr:Qi (fun f _=>Nat.ble 1 f) T=false):
 CW Tryz.prog Qg 93 [.yield 0 1000002,.iptr [v] 0,.iptr [.int .i64 2] 0] [[(2,.cells [.bool false]),(1000002,.loop 0 none 28 2 T)]] fun r H' =>r= .ret (.tuple [])/\((Bg l=true/\H' =[[(2,.cells [.bool false]),(1000002,.loop 0 none 28 2 T)]])\/(Bg l=false/\H' =[[(2,.cells [.bool false]),(1000002,.loop 2 (some none) 28 2 T)]])):=by
 have cl:∀(st:Nat) (p:Option (Option Nat)),WF [[(2,O.cells [.bool false]),(1000002,.loop st p 28 2 T)]]:=fun st p=>by have h0:(O.loop st p 28 2 T).refs (fun f _=>Nat.ble 1 f)=false:=hr;show Qz (fun f _=>Nat.ble 1 f) _=true;simp only[Qz,Zb,h0];rfl
 refine(Q5d v l hv (by omega) 2 (by omega) (by omega) m hl 0 1000002 [[(2,.cells [.bool false]),(1000002,.loop 0 none 28 2 T)]] (fun j H=>H=Qcf T 0 none/\Bg (l.drop (2*j))=Bg l)
  (fun H=>(Bg l=true/\H=Qcf T 0 none)\/(Bg l=false/\H=Qcf T 2 (some none))) ⟨rfl,rfl⟩ ?_ ?_).mono ?_
 . rintro j H hj ⟨rfl,hp⟩ w hw;obtain⟨a,b,r,hd⟩:∃a b r,l.drop (2*j)=a::b::r:=by
    have hlen:(l.drop (2*j)).length=2*m-2*j:=by simp[hl]
    match h:l.drop (2*j) with
    |[]=>rw[h] at hlen;simp at hlen;omega
    |[_]=>rw[h] at hlen;simp at hlen;omega
    |a::b::r=>exact⟨a,b,r,rfl⟩
   rw[hd] at hw hp;obtain⟨x,H',h1,hT',hF'⟩:=Qtq T hT h2 hr a b w hw;have e:Bg (a::b::r)=((!decide (a<0)&&!decide (a>=b))&&Bg r):=rfl;refine⟨x,H',h1,fun hx=>?_,fun hx=>?_⟩
   . obtain⟨h3,rfl⟩:=hT' hx;exact⟨rfl,by rw[Q9g hd,<-hp,e,h3,Zsy]⟩
   . obtain⟨h3,rfl⟩:=hF' hx;exact .inr ⟨by rw[<-hp,e,h3,Zt8],rfl⟩
 . rintro H ⟨rfl,hp⟩;refine .inl ⟨?_,rfl⟩;rw[<-hp,<-hl,List.drop_length];rfl
 . rintro r H ⟨rfl,HE,h,rfl⟩;refine⟨rfl,?_⟩;rcases h with⟨h1,rfl⟩|⟨h1,rfl⟩
   . exact .inl ⟨h1,Zl (H:=[[(2,O.cells [.bool false]),(1000002,.loop 0 none 28 2 T)]]) (G:=[[]]) rfl (cl _ _)⟩
   . exact .inr ⟨h1,Zl (H:=[[(2,O.cells [.bool false]),(1000002,.loop 2 (some none) 28 2 T)]]) (G:=[[]]) rfl (cl _ _)⟩
theorem Qs9(v:V)(l:List Int)(hv:Ke v l)(m:Nat)(hl:l.length=2*m)(hm:m<=1000):Fz Tryz.prog Qg 28 [v] fun r=>r= .bool (Bg l):=by
 refine Qw Tryz.func28 rfl ?_;obtain⟨m1,rfl,hm1⟩:=(Q6d v l hv 2 (by omega)).op (by rfl) (Qa (Q0.frz hv _) rfl);have hm1' :∀s H,callOp Qg (Qp Tryz.prog Qg) 28 0 s 52 [v,.int .i64 2] H=_:=fun s H=>hm1 28 0 s H rfl;have nr:∀q,v.refs q=false:=fun q=>Q0.noRefs hv q;simp only[wA,↓Qc,simprocAttr,Tryz.ntmps28,ta,wH,wB,hm1'];refine W.rfunc (rid:=2) rfl rfl rfl ?_;refine(Qxu v l hv m hl hm _ rfl rfl ?_).mono ?_
 . simp only[Qi,V.refs,nr];rfl
 rintro r H2 ⟨rfl,⟨hp,rfl⟩|⟨hp,rfl⟩⟩
 . refine⟨_,rfl,?_⟩;rw[Qbg (st:=0) (f:=28) (r:=2) rfl (by decide) (by simp only[Qi,V.refs,nr];rfl) rfl];have hH:∀T,List.modify [[(2,O.cells [.bool false]),(1000002,O.loop 0 none 28 2 T)]] 0 (Jb fun x=>[Qv 2].contains x)=[[(2,O.cells [.bool false])]]:=fun T=>rfl;rw[hH];simp only[wA,↓Qc,simprocAttr,wH,wB,ta,Z6];exact W.done (Qk.ret (v:= .bool true) rfl rfl (by rw[hp]))
 . refine⟨_,rfl,?_⟩;rw[Qek (st:=2) (f:=28) (r:=2) rfl (by decide) (by simp only[Qi,V.refs,nr];rfl) rfl];have hH:∀T,List.modify [[(2,O.cells [.bool false]),(1000002,O.loop 2 (some none) 28 2 T)]] 0 (Jb fun x=>[Qv 2].contains x)=[[(2,O.cells [.bool false])]]:=fun T=>rfl;rw[hH];simp only[wA,↓Qc,simprocAttr,wH,wB,ta,Z6];exact W.done (Qk.ret (v:= .bool false) rfl rfl (by rw[hp]))
theorem Zaa(p:Zq):Fz Tryz.prog Qg 205 [.agg p.cells] fun r=>r= .bool (!Yp p):=by refine Qw Tryz.func205 rfl ?_;obtain⟨m,rfl,hm⟩:=(Km p).op (by rfl) rfl;have hm1:∀s H,_:=fun s H=>hm 205 0 s H rfl;generalize Yp p=b at*;obtain⟨p1,p2,p3,p4,p5⟩:=p;simp only[Zq.cells] at hm1⊢;simp only[wA,↓Qc,simprocAttr,Tryz.ntmps205,ta,wH,wB,hm1,Xr];exact W.done (Qk.ret rfl rfl rfl)
theorem Q1f(n lo hi:Int):Fz Tryz.prog Qg 204 [.int .i64 n,.int .i64 lo,.int .i64 hi] fun r=>r= .bool (decide (n>=lo)&&decide (n<=hi)):=by
 refine Qw Tryz.func204 rfl ?_;simp only[wA,↓Qc,simprocAttr,Tryz.ntmps204,ta,wH,wB]
 repeat' ((first|refine W.guardF ?_ ?_|refine W.guardT ?_ ?_|refine W.guardXF ?_ ?_|refine W.guardXT ?_ ?_|refine W.ite ?_ ?_|refine W.opsK1 (by kernel_rfl) ?_)<;>intro h<;>simp only[wA,↓Qc,simprocAttr,h,ta,wH,wB])
 all_goals refine W.done (Qk.ret rfl rfl ?_)
 all_goals first|rfl|(simp only[*,Jy,if_true,if_false];try rfl)
theorem Q0x(v:V)(l:List Zq)(hv:Jn v l)(hl:l.length<=9223372036854775807):
 Fz Tryz.prog Qg 188 [v,.func (.func 205) [] []] fun r=>r= .int .i64 (Zj (fun p=>!Yp p) 0 l):=by
 refine Qw Tryz.func188 rfl ?_;have len:=Q0.len (P:=Tryz.prog) Tryz.underlying55 hv;generalize hp:(fun p:Zq=>!Yp p)=q;simp only[wA,↓Qc,simprocAttr,Tryz.ntmps188,ta,wH,wB,len];refine W.ul ?_;refine W.loopS (kt:=[0,1,7,8]) rfl (fun i:Nat=>Q38 v (.func (.func 205) [] []) (.int .i64 l.length) (.int .i64 i)) (fun _=>[[]]) (fun i=>i<=l.length/\Zj q i (l.drop i)=Zj q 0 l) (fun i=>l.length-i) ?_ 0 ⟨by omega,rfl⟩ rfl rfl;rintro i ⟨hi,hR⟩;simp only[Q38];by_cases h:i<l.length
 . have c1:decide ((i:Int)<l.length)=true:=Zum (by omega);have at1:=Q0.at (P:=Tryz.prog) (k:= .i64) Tryz.underlying55 Qqa (by decide) hv (i:=(i:Int)) (by omega) (by omega);have ld1:∀g,ldV Tryz.prog 31 g (.iptr (Zg l) ((i:Int).toNat*5))=some (.agg l[i].cells):=fun g=>by
    show Qn Tryz.prog 31 (Zg l) (i*5)=_;rw[rd31,if_pos (by rw[Br];omega),Qkq l i h]
   have w1:(IntKind.i64).wrap ((i:Int)+1)=((i+1:Nat):Int):=by rw[wrap_i64]<;>omega
   obtain⟨m,rfl,hm⟩:=(Zaa l[i]).op (by rfl) rfl;have hm1:∀s H,_:=fun s H=>hm 188 0 s H rfl;have e:(!Yp l[i])=q l[i]:=by rw[<-hp]
   rw[e] at hm1;have hS:Zj q i (l.drop i)=if q l[i] then(i:Int) else Zj q (i+1) (l.drop (i+1)):=by rw[Zue h];rfl
   rw[hR] at hS;generalize hc:q l[i]=b at*;generalize l[i]=p at*;simp only[wA,↓Qc,simprocAttr,c1,at1,ld1,hm1,ta,wH,wB];refine W.ite ?_ ?_<;>intro h2<;>simp only[wA,↓Qc,simprocAttr,ta,wH,w1]
   . refine W.done ?_;simp only[wA,↓Qc,simprocAttr];refine W.done (Qk.ret (v:= .int .i64 (Zj q 0 l)) ?_ rfl rfl);rw[hS,h2];rfl
   . refine W.done ⟨i+1,rfl,rfl,⟨by omega,?_⟩,by omega⟩;rw[hS,h2];rfl
 . have c1:decide ((i:Int)<l.length)=false:=Zun (by omega);simp only[wA,↓Qc,simprocAttr,c1];refine W.done ?_;simp only[wA,↓Qc,simprocAttr];refine W.done (Qk.ret (v:= .int .i64 (Zj q 0 l)) ?_ rfl rfl);rw[<-hR,Ztt (by omega)];rfl
theorem Qyr(v:V)(l:List Zq)(hv:Jn v l)(hl:l.length<=9223372036854775807):
 Fz Tryz.prog Qg 149 [v,.func (.func 205) [] []] fun r=>r= .bool (l.any fun p=>!Yp p):=by
 refine Qw Tryz.func149 rfl ?_;obtain⟨m,rfl,hm⟩:=(Q0x v l hv hl).op (by rfl) (Qa (Q0.frz hv _) (Qa rfl rfl));have hm1:∀s H,_:=fun s H=>hm 149 0 s H rfl;simp only[wA,↓Qc,simprocAttr,Tryz.ntmps149,ta,wH,wB,hm1,Qgs];exact W.done (Qk.ret rfl rfl rfl)
structure Q1x where
 kind:Int
 links:Int
 size:Int
 data:List Zq
abbrev Qgi(o:Q1x)(dv:V):List V:=[.int .u8 o.kind,.int .i64 o.links,.int .i64 o.size,dv]
def btw(n lo hi:Int):Bool:=decide (n>=lo)&&decide (n<=hi)
def Qla(o:Q1x):Bool:= !(!btw o.kind 1 7||(!btw o.links 0 255||(!btw o.size 0 3840||(((o.data.length:Int) !=15)||o.data.any fun p=>!Yp p))))
theorem Qwr(o:Q1x)(dv:V)(hk:0<=o.kind/\o.kind<256)(hd:Jn dv o.data)(hl:o.data.length<=9223372036854775807):Fz Tryz.prog Qg 177 [.agg (Qgi o dv)] fun r=>r= .int .i64 (okE (Qla o)):=by
 refine Qw Tryz.func177 rfl ?_;obtain⟨kind,links,size,data⟩:=o;simp only at hk hd hl;obtain⟨m,rfl,hm⟩:=(Q1f kind 1 7).op (by rfl) rfl;have hm1:∀s H,_:=fun s H=>hm 177 0 s H rfl;obtain⟨m,rfl,hm⟩:=(Q1f links 0 255).op (by rfl) rfl;have hm2:∀s H,_:=fun s H=>hm 177 0 s H rfl;obtain⟨m,rfl,hm⟩:=(Q1f size 0 3840).op (by rfl) rfl;have hm3:∀s H,_:=fun s H=>hm 177 0 s H rfl;obtain⟨m,rfl,hm⟩:=(Qyr dv data hd hl).op (by rfl) (Qa (Q0.frz hd _) (Qa rfl rfl));have hm4:∀s H,_:=fun s H=>hm 177 0 s H rfl;have len:=Q0.len (P:=Tryz.prog) Tryz.underlying55 hd;have cv:∀g,convertV Tryz.prog g 5 3 (.int .u8 kind)=some (.val (.int .i64 kind) none):=fun g=>by
  simp only[convertV,Tryz.underlying3,Tryz.underlying5];have:(IntKind.i64).wrap kind=kind:=by rw[wrap_i64]<;>omega
  simp only[this]
 have sd:=Ze hd;have hE:Qla ⟨kind,links,size,data⟩= !(!(decide (kind>=1)&&decide (kind<=7))||(!(decide (links>=0)&&decide (links<=255))||(!(decide (size>=0)&&decide (size<=3840))||(((data.length:Int) !=15)||data.any fun p=>!Yp p)))):=rfl;rw[hE];generalize(decide (kind>=1)&&decide (kind<=7))=b1 at*;generalize(decide (links>=0)&&decide (links<=255))=b2 at*;generalize(decide (size>=0)&&decide (size<=3840))=b3 at*;generalize(data.any fun p=>!Yp p)=b5 at*;simp only[Qgi];cases b1<;>cases b2<;>cases b3<;>cases h4:((data.length:Int) !=15)<;>cases b5
 all_goals
  simp only[wA,↓Qc,simprocAttr,Tryz.ntmps177,ta,wH,wB,hm1,hm2,hm3,hm4,len,cv,sd,h4];exact W.done (Qk.ret rfl rfl rfl)
theorem ob_at(l:List UInt8)(i:Nat)(h:i<l.length):(Qb l)[i]?=some (.int .u8 ((l[i].toNat:Nat):Int)):=by simp[Qb,Zra h]
theorem Qxy(d:Nat)(a b:List UInt8):∀(n i:Nat),i+n<=a.length->i+n<=b.length->∃r,Qf6 Tryz.prog (eqV Tryz.prog (d+1)) 5 1 (Qb a) (Qb b) i n=some r
 |0,i,_,_=>⟨true,rfl⟩
 |n+1,i,h1,h2=>by
  have pa:Qar Tryz.prog 5 (Qb a) (i*1)=some (.int .u8 a[i].toNat):=by simp only[Qar,Tryz.underlying5,sz5,Qk1,Zsd];simp[Qb,Zra (show i<a.length by omega)]
  have pb:Qar Tryz.prog 5 (Qb b) (i*1)=some (.int .u8 b[i].toNat):=by simp only[Qar,Tryz.underlying5,sz5,Qk1,Zsd];simp[Qb,Zra (show i<b.length by omega)]
  have e:eqV Tryz.prog (d+1) 5 (.int .u8 a[i].toNat) (.int .u8 b[i].toNat)=some ((a[i].toNat:Int)==(b[i].toNat:Int)):=by simp only[eqV,Tryz.underlying5,Qsi,if_true]
  unfold Qf6;rw[pa,pb];simp only[e];cases((a[i].toNat:Int)==(b[i].toNat:Int))
  . exact⟨false,rfl⟩
  . exact Qxy d a b n (i+1) (by omega) (by omega)
theorem arr12(x y:Operand)(a b:List UInt8)(ha:a.length=12)(hb:b.length=12):∃r,Zp Tryz.prog .neq 234 x y (.agg (Qb a)) (.agg (Qb b))=some (.bool r):=by
 have hg:(Tryz.prog).eqGuardType (Tryz.prog).depth 234=false:=by kernel_rfl
 obtain⟨r,hr⟩:=Qxy 6 a b 12 0 (by omega) (by omega);refine⟨!r,?_⟩;have e:Qkk Tryz.prog 234 x y (.agg (Qb a)) (.agg (Qb b))=some r:=by simp only[Qkk,Tryz.underlying234,hg,Zre,if_false];rw[<-hr];simp only[eqV,Tryz.underlying234,sz5]
 simp only[Zp,e,Zrb]
def Qtt(x:V):Prop:=∃(o:Q1x) (dv:V) (e:Int),x= .tuple [.agg (Qgi o dv),.int .i64 e]/\Jn dv o.data/\((e=0/\Qla o=true)\/(e≠0/\o=⟨0,0,0,[]⟩))
theorem Qo7:∀(l:List Zq) (n:Nat),(Zg l).take (n*5)=Zg (l.take n)
 |_,0=>by simp[Zg]
 |[],n+1=>by simp[Zg]
 |p::l,n+1=>by
  have e:Zg (p::l)=p.cells++Zg l:=rfl;have e2:Zg ((p::l).take (n+1))=p.cells++Zg (l.take n):=rfl;rw[e,e2,<-Qo7 l n,show(n+1)*5=p.cells.length+n*5 by simp[Zq.cells];omega,List.take_length_add_append]
theorem cut0S{P:Program}{u e:TypeId}{v:V}{cells:List V}{esz n:Nat}(hu:P.underlying u=some (.slice e))(hs:sz P e=some esz)(h:Q0 esz v cells n){b:Nat}(h2:b<=n):
 ∃w,(∀g,Zh P g u v none (some (.int .i64 b)) (some (.int .i64 b))=some w)/\Q0 esz w (cells.take (b*esz)) b:=by
 have ol:∀x:Nat,Yj (some (.int .i64 x))=some (some (x:Int)):=fun x=>rfl;have on:Yj none=some none:=rfl;obtain⟨hl,⟨rfl,h0⟩|⟨f,rfl⟩⟩:=h
 . have hb:b=0:=by omega
   subst hb;refine⟨.nS,fun g=>?_,?_⟩
   . simp only[Zh,ol,on,hu,hs,Xs];rfl
   . rw[Nat.zero_mul,List.take_zero];exact Q0.nil
 . refine⟨.iS (cells.take (b*esz)) b true,fun g=>?_,Q0.mk ?_⟩
   . simp only[Zh,ol,on,hu,hs,Qj9,hl,if_true,Xs,Zs3,Zsu];rw[if_pos ⟨by omega,by omega,by omega,by omega,by omega,by omega,by simp⟩];simp
   . have e2:b*esz<=n*esz:=Zsx esz h2;rw[Zsv,hl];omega
def z12:List UInt8:=List.replicate 12 0
theorem bvO:K4 Tryz.prog 234 []=some (.agg (Qb z12)):=by kernel_rfl
theorem Q2t(v:V)(l:List UInt8)(hv:Qf v l)(hl:l.length=256):Fz Tryz.prog Qg 133 [v] Qtt:=by
 refine Qw Tryz.func133 rfl ?_;obtain⟨_,⟨rfl,h0⟩|⟨f,rfl⟩⟩:=id hv
 . omega
 have len:=hv.len Tryz.underlying26;rw[hl] at len hv⊢;obtain⟨w,sl,hw,hwf⟩:=cut3 (P:=Tryz.prog) Tryz.underlying26 sz5 hv (a:=16) (b:=256) (by omega) (by omega) (fun _ _=>none);obtain⟨n,hn,e,hg⟩:=Q4u _ l hv (by omega) 2 2 (by omega) (by omega);obtain⟨m,rfl,hm⟩:=hg.op (by rfl) (Qa (hv.frz _) rfl);have hm1:∀s H,callOp Qg (Qp Tryz.prog Qg) 133 0 s 176 [.iS (Qb l) 256 f,.int .i64 2,.int .i64 2] H=_:=fun s H=>hm 133 0 s H rfl;have sl' :∀g,Zh Tryz.prog g 26 (.iS (Qb l) 256 f) (some (.int .i64 16)) (some (.int .i64 256)) (some (.int .i64 256))=some w:=sl;have ol:(Qb l).length=256:=by rw[Q8,hl]
 generalize hx:(Qb l).take 16=c;have cl:c.length=16:=by rw[<-hx,Zsv,ol];rfl
 have csc:c.all V.scalar=true:=by rw[<-hx,Qa4];exact Ja _
 have c0:c[0]?=some (.int .u8 (l[0].toNat:Nat)):=by rw[<-hx,Zrn,if_pos (by omega),ob_at l 0 (by omega)]
 have c1:c[1]?=some (.int .u8 (l[1].toNat:Nat)):=by rw[<-hx,Zrn,if_pos (by omega),ob_at l 1 (by omega)]
 have hwe:w= .iS (Qb ((l.drop 16).take 240)) 240 true:=by
  have pl:((l.drop 16).take 240).length=240:=by simp;omega
  rcases hwf with⟨_,h⟩|⟨c',n',rfl⟩
  . cases h
  . have h:=hw.2;rcases h with⟨h,_⟩|⟨f',h⟩
    . cases h
    . cases h;show V.iS _ (List.length (List.take 240 (List.drop 16 l))) true=_;rw[pl]
 subst hwe;have pl:((l.drop 16).take 240).length=240:=by simp;omega
 generalize(l.drop 16).take 240=p at*;have opl:(Qb p).length=240:=by rw[Q8,pl]
 have mt22:Qg.mt 133 22=false:=Qch (by decide) rfl;have zz:zerosN [V.int .u8 0] 16=Qb (List.replicate 16 0):=rfl;have ap:Qq Tryz.prog (Qg.mt 133) 0 (Qd [[(2,.cells [.int .u8 0,.int .i64 0,.int .i64 0,.nS]),(4,.cells c)]]) (some 22) 26 3 (.iS (Qb p) 240 true) (.int .i64 16)=some (.val (.gS 0 22 (Qb (p++List.replicate 16 0)) 256 1) (some (0,22,.grow 256))):=by
  have r1:Jl 16 1=true:=rfl;have r2:Jl (240+16) 1=true:=rfl;have z1:zeroCells Tryz.prog 5=some [.int .u8 0]:=zc5;have hn:Qd [[(2,O.cells [.int .u8 0,.int .i64 0,.int .i64 0,.nS]),(4,.cells c)]] 0 22=none:=rfl;have asr:Z3 Tryz.prog (Qd [[(2,O.cells [.int .u8 0,.int .i64 0,.int .i64 0,.nS]),(4,.cells c)]]) 3 1 1 [.int .u8 0] (.int .i64 16)=some (Qb (List.replicate 16 0),16):=by simp only[Z3,Tryz.underlying3];rw[if_pos ⟨by decide,r1⟩,<-zz];rfl
  simp only[Qq,Tryz.underlying26,sz5,Qcp,z1,asr,appendTo,opl,r2,and_self,if_true];rw[if_pos (show[V.int .u8 0].length=1 from rfl),Xc mt22 (Yc _) hn,<-K8]
 have ql:(p++List.replicate 16 0).length=256:=by simp[pl]
 generalize p++List.replicate 16 (0:UInt8)=q at*;obtain⟨m,⟨pv,e2,rfl,hr⟩,hm⟩:=(Q4b (.iS (Qb q) 256 false) q (by have:=Qf.mk q false;rwa[ql] at this) ql).op' (args:=[.gS 0 22 (Qb q) 256 1]) (by rfl) (Qa (Qwe _ _) rfl);have hm2:∀s H,_:=fun s H=>hm 133 0 s H rfl;have zero:∀(T:List V) (H:Heap) (x:Int),x≠0->Xn Tryz.prog Tryz.f133 T H=some (.tuple [.agg (Qgi ⟨0,0,0,[]⟩ .nS),.int .i64 x])->Qk Tryz.prog Tryz.f133 Qtt .ret T H:=fun T H x hx h=>
  Qk.ret h rfl ⟨_,.nS,x,rfl,Q0.nil,.inr ⟨hx,rfl⟩⟩
 rcases hr with⟨rfl,ps,hps,hpl,hpo⟩|⟨he,rfl⟩
 . have psc:=Ze hps;obtain⟨d,hd,hdl⟩:∃d:List UInt8,(c.drop 4).take 12=Qb d/\d.length=12:=by
    refine⟨((l.take 16).drop 4).take 12,?_,by simp;omega⟩;rw[<-hx,Qa4,Qfy,Qa4]
   obtain⟨r,hr⟩:=arr12 (.tmp 31) (.tmp 32) d z12 hdl rfl;have slv:∀g:Get,g 0 4=some (.cells c)->Zh Tryz.prog g 143 (.ptr 0 4 0) (some (.int .i64 4)) none none=some (.mS 0 4 4 12 (some 12) 1):=fun g hg=>by have ol4:Yj (some (.int .i64 4))=some (some 4):=rfl;have on:Yj none=some none:=rfl;simp only[Zh,ol4,on,Tryz.underlying143,sz5,hg,cl];rfl
   have ia0:Qm Tryz.prog 143 (.ptr 0 4 0) (.int .i64 0)=some (.ptr 0 4 0):=by simp only[Qm,Tryz.underlying143,sz5];rfl
   have ia1:Qm Tryz.prog 143 (.ptr 0 4 0) (.int .i64 1)=some (.ptr 0 4 1):=by simp only[Qm,Tryz.underlying143,sz5];rfl
   have cv:∀g (b:UInt8),convertV Tryz.prog g 5 3 (.int .u8 b.toNat)=some (.val (.int .i64 b.toNat) none):=fun g b=>by
    have hb:=UInt8.toNat_lt b;simp only[convertV,Tryz.underlying3,Tryz.underlying5];have:(IntKind.i64).wrap (b.toNat:Int)=b.toNat:=by rw[wrap_i64]<;>omega
    simp only[this]
   obtain⟨w2,sl2,hw2⟩:=cut0S (P:=Tryz.prog) Tryz.underlying55 Qqa hps (b:=15) (by omega);rw[Qo7] at hw2;have hl15:(ps.take 15).length=15:=by simp;omega
   have hw2' :Jn w2 (ps.take 15):=by unfold Jn;rw[hl15];exact hw2
   have s2:=Ze hw2;have s2c:=Bu hw2;have sl2' :∀g,Zh Tryz.prog g 55 pv none (some (.int .i64 15)) (some (.int .i64 15))=some w2:=sl2;have hb0:=UInt8.toNat_lt l[0];obtain⟨m,rfl,hm⟩:=(Qwr ⟨l[0].toNat,l[1].toNat,n,ps.take 15⟩ w2 ⟨by simp,by simp only;omega⟩ hw2' (by simp only;omega)).op (by rfl) (Qa (Qay (Qa rfl (Qa rfl (Qa rfl (Qa (Q0.frz hw2 10) rfl))))) rfl);have hm3:∀s H,_:=fun s H=>hm 133 0 s H rfl;simp only[Qgi] at hm3;have good:∀(T:List V) (H:Heap) (hok:Qla ⟨l[0].toNat,l[1].toNat,n,ps.take 15⟩=true),Xn Tryz.prog Tryz.f133 T H=some (.tuple [.agg (Qgi ⟨l[0].toNat,l[1].toNat,n,ps.take 15⟩ w2),.int .i64 0])->Qk Tryz.prog Tryz.f133 Qtt .ret T H:=fun T H hok h=>
    Qk.ret h (Jc (Qa (Qay (Qa rfl (Qa rfl (Qa rfl (Qa (Q0.frz hw2 9) rfl))))) (Qa rfl rfl))) ⟨_,w2,0,rfl,hw2',.inl ⟨rfl,hok⟩⟩
   simp only[Qgi] at good;generalize hok:Qla ⟨l[0].toNat,l[1].toNat,n,ps.take 15⟩=ok at*;generalize l[0]=b0 at*;generalize l[1]=b1 at*;cases r
   . simp only[wA,↓Qc,simprocAttr,Tryz.ntmps133,ta,wH,wB,len,hm1,ol,hx,cl,csc,Tryz.underlying143,sl',Ztu,Q2,ap,hm2,Tryz.underlying234,bvO,hd,hr,slv,ia0,ia1,c0,c1,cv,sl2',s2,s2c];refine W.opsT (by kernel_rfl) ?_;cases ok
     . simp only[okE] at hm3;simp only[wA,↓Qc,simprocAttr,ta,wH,wB,ia0,ia1,c0,c1,cv,sl2',s2,s2c,hm3];exact W.done (zero _ _ 8 (by decide) rfl)
     . simp only[okE] at hm3;simp only[wA,↓Qc,simprocAttr,ta,wH,wB,ia0,ia1,c0,c1,cv,sl2',s2,s2c,hm3];exact W.done (good _ _ rfl rfl)
   . simp only[wA,↓Qc,simprocAttr,Tryz.ntmps133,ta,wH,wB,len,hm1,ol,hx,cl,csc,Tryz.underlying143,sl',Ztu,Q2,ap,hm2,Tryz.underlying234,bvO,hd,hr,slv];exact W.done (zero _ _ 8 (by decide) rfl)
 . have c2:(e2 !=0)=true:=by simpa using he
   simp only[wA,↓Qc,simprocAttr,Tryz.ntmps133,ta,wH,wB,len,hm1,ol,hx,cl,csc,Tryz.underlying143,sl',Ztu,Q2,ap,hm2,c2];exact W.done (zero _ _ 8 (by decide) rfl)
end
end Go.Proofs.YtidniacddkalaaaGreatDoor
