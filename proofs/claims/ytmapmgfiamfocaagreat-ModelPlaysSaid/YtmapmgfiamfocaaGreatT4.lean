/- This file holds in one the texts An11, An12; each says at its head what it proves. -/
import Derived.Test.YtmapmgfiamfocaaGreatT3
set_option linter.unusedSimpArgs false
set_option linter.unusedVariables false
section
namespace Go.AM
variable {P : Program} {E : Env} {B : Nat} {F : Nat -> Nat -> Prop} {H : Qg}
def wr(H:Qg):Option (Nat×Nat×O)->Qg
 |none=>H
 |some (f,s,o)=>Qs H f s o
def Yd(B:Nat)(F:Nat->Nat->Prop)(H:Qg)(E:Env)(st:Yv)(r:Result Value):Prop:=
 ∃v w E' cv,st= .val v w/\Ext H.length B E E' /\Sim B F (wr H w) E' /\Rel E' v cv/\r= .ok cv E'.w
theorem Yd.same(S:Sim B F H E){v:V}{cv:Value}{r:Result Value}(hr:Rel E v cv)(h:r= .ok cv E.w):Yd B F H E (.val v none) r:=
 ⟨v,none,E,cv,rfl,Ext.refl _ _ _,S,hr,h⟩
theorem Qap{g:Get}{fr:Nat}{dst:Option Nat}{o:O}{v:Nat->V}{st:Yv}(h:new g fr dst o v=some st):∃d,dst=some d/\g fr d=none/\st= .val (v d) (some (fr,d,o)):=by
 unfold new at h;split at h
 . rename_i d;split at h
   . rename_i hg;cases h;exact⟨d,rfl,hg,rfl⟩
   . cases h
 . cases h
theorem Qoj{α:Type}(xs cs:List α)(o i:Nat)(h:o+cs.length<=xs.length):
 (splice xs o cs)[i]?=if i<o then xs[i]? else if i<o+cs.length then cs[i-o]? else xs[i]?:=by
 unfold splice;by_cases h1:i<o
 . rw[if_pos h1,Zgg,Zfy (by simp;omega),Zfh,if_pos h1]
 . rw[if_neg h1,Zgg,Zfz (by simp;omega)];have e:(xs.take o).length=o:=by simp;omega
   rw[e];by_cases h2:i<o+cs.length
   . rw[if_pos h2,Zfy (by omega)]
   . rw[if_neg h2,Zfz (by omega),Zhv];congr 1;omega
theorem Qba{α:Type}(xs rest cs:List α)(o:Nat)(h:o+cs.length<=xs.length):splice (xs++rest) o cs=splice xs o cs++rest:=by unfold splice;rw[Zh0 (by omega),List.drop_append_of_le_length (by omega)];simp
theorem Qme(S:Sim B F H E){fr:Nat}(hfr:fr<H.length){dst:Option Nat}{z:List V}{vs:List Value}{st:Yv}(T:TypeId)
 (h:new (Qd H) fr dst (.cells z) (fun d=> .ptr fr d 0)=some st)(hr:Qr E z vs)(hz:z.all V.scalar=true):
 Yd B F H E st (.ok (.pointer (some ⟨E.w.heap.size,0,none⟩)) {E.w with heap:=E.w.heap.push (.cells ⟨vs⟩ T)}):=by
 obtain⟨d,rfl,hg,rfl⟩:=Qap h;obtain⟨X,S'⟩:=S.newCells hfr hg z vs [] T E.w.drawn hr hz;refine⟨_,_,_,.pointer (some ⟨E.w.heap.size,0,none⟩),rfl,X,S',?_,?_⟩
 . simp only[Rel];exact⟨E.w.heap.size,Q0 _ _ _ _,rfl⟩
 . simp[Env.newCells,Env.push]
theorem Qho(S:Sim B F H E){mt:Nat->Bool}{fr:Nat}(hfr:fr<H.length){dst:Option Nat}{cs chk:List V}{n esz newCap:Nat}{st:Yv}(T:TypeId)
 (h:grown mt (Qd H) fr dst cs chk n esz=some st){vs rest:List Value}(hr:Qr E cs vs)(hl:vs.length=n*esz)(hcap:n<=newCap)
 (hrest:rest.length=(newCap-n)*esz):
 Yd B F H E st (.ok (.slice (some ⟨E.w.heap.size,0,none⟩) n newCap) {E.w with heap:=E.w.heap.push (.cells ⟨vs++rest⟩ T),drawn:=E.w.drawn+1}):=by
 have htot:newCap*esz=n*esz+(newCap-n)*esz:=by rw[<-Zhw];congr 1;omega
 unfold grown at h;split at h
 case h_2=>cases h
 rename_i d;split at h
 . split at h
   case isFalse=>cases h
   rename_i hsc;obtain⟨d',hd,hg,rfl⟩:=Qap h;cases hd;obtain⟨X,S'⟩:=S.newCells hfr hg cs vs rest T (E.w.drawn+1) hr hsc;refine⟨_,_,_,.slice (some ⟨E.w.heap.size,0,none⟩) n newCap,rfl,X,S',?_,rfl⟩;simp only[Rel];refine⟨E.w.heap.size,newCap,T,(vs++rest).length,Q0 _ _ _ _,rfl,hcap,(fun k hk=>by cases hk),?_,?_,?_⟩
   . have:=Kw E (.cells ⟨vs++rest⟩ T) (E.w.drawn+1);simp only[Env.newCells,World.shape?,this];simp
   . simp;omega
   . intro _;simp;omega
 split at h
 . split at h
   case isFalse=>cases h
   rename_i hsc;obtain⟨d',hd,hg,rfl⟩:=Qap h;cases hd;have hlen:(vs++rest).length=newCap*esz:=by simp;omega
   obtain⟨X,S'⟩:=S.newMg hfr hg n (n*esz) (newCap*esz) cs vs rest T (E.w.drawn+1) (by omega) hr hsc.1;refine⟨_,_,_,.slice (some ⟨E.w.heap.size,0,none⟩) n newCap,rfl,X,S',?_,rfl⟩;simp only[Rel];refine⟨E.w.heap.size,newCap,rfl,hcap,by simp[Env.newMg,Q0],?_⟩;intro n' b' lo hi e;simp only[Env.newMg,Q0,Zic,Prod.mk.injEq] at e;obtain⟨rfl,rfl,rfl,rfl⟩:=e;exact⟨Ze8 _,fun _=>⟨rfl,rfl,rfl⟩⟩
 split at h
 . split at h
   case isFalse=>cases h
   rename_i hp;cases h;obtain⟨X,S',hrow⟩:=S.newRow (vs++rest) T (0,0) (E.w.drawn+1);refine⟨_,_,_,.slice (some ⟨E.w.heap.size,0,none⟩) n newCap,rfl,X,S',?_,rfl⟩;simp only[Rel];refine⟨_,newCap,vs,rfl,hcap,(fun h=>by cases h),.inr ⟨rfl,fun i v hv=>hrow i v ?_⟩,Qr.mono X S.lt _ _ hr,hp⟩;rw[Zfy (Zf0.1 hv).1];exact hv
 . obtain⟨d',hd,hg,rfl⟩:=Qap h;cases hd;have hlen:(vs++rest).length=newCap*esz:=by simp;omega
   obtain⟨X,S',hrow⟩:=S.newTok hfr hg n (n*esz) (newCap*esz) (vs++rest) T (E.w.drawn+1) (by omega);have htake:(vs++rest).take (n*esz)=vs:=by rw[<-hl];simp
   rw[htake] at hrow;refine⟨_,_,_,.slice (some ⟨E.w.heap.size,0,none⟩) n newCap,rfl,X,S',?_,rfl⟩;simp only[Rel];refine⟨E.w.heap.size,0,newCap,vs,rfl,hcap,hrow,Qr.mono X S.lt _ _ hr,by rw[hr.length,hl],by simp[Env.newTok,Q0],?_⟩;intro n' b' lo hi e;simp only[Env.newTok,Q0,Zic,Prod.mk.injEq] at e;obtain⟨rfl,rfl,rfl,rfl⟩:=e;exact⟨Ze8 _,fun _=>⟨rfl,by omega,by omega⟩⟩
theorem Qgb(E:Env)(l:List UInt8):Qr E (Qp l) (l.map fun b=> .int .u8 b.toNat):=by
 induction l with
 |nil=>exact .nil
 |cons b l ih=>exact .cons (by simp[Rel]) ih
theorem Qgs(w:World)(l:List UInt8)(k:Nat):(Builtin.firstCells 1 k (.string ⟨⟨l⟩⟩)).run P w= .ok ⟨(l.map fun b=>Value.int .u8 b.toNat).take (k*1)⟩ w:=by
 simp only[Builtin.firstCells,Zif];congr 1;have e:(⟨⟨l⟩⟩:ByteArray).extract 0 k=⟨⟨l.take k⟩⟩:=by have:=ByteArray.extract_mk l 0 k;simpa using this
 rw[e];apply Array.ext';simp[List.map_take]
theorem Qkn(S:Sim B F H E){t2 e:TypeId}{n by_ m:Nat}{z new:List V}{x:V}{c:Value}{zv:Value}(hz:zer P e=some zv)(hzc:zeroCells P e=some z)(hzl:z.length=n)
 (h:Qcj P (Qd H) t2 n by_ z x=some (new,m))(hr:Rel E x c):∃news,Src P E.w e n by_ t2 c m news/\Qr E new news/\news.length=m*n:=by
 unfold Qcj at h;split at h
 . rename_i kd hu;split at h
   case h_2=>cases h
   rename_i k;split at h
   case isFalse=>cases h
   rename_i hk;cases h;simp only[Rel] at hr;subst hr;obtain⟨zv',vs,h1,h2,h3,_⟩:=Kd hzc E.w;have:zv' =zv:=by have:=Qb6 hz E.w;rw[this] at h1;cases h1;rfl
   subst this;have hvl:vs.length=n:=by rw[<-(h3 E).length];exact hzl
   have hsrc:=Src.zeros (P:=P) (w:=E.w) (e:=e) (n:=n) (by_:=by_) (t2:=t2) k kd zv' hu hk.1 hk.2 hz (by rw[h2];exact hvl);rw[h2] at hsrc;exact⟨_,hsrc,(h3 E).zerosN _,by rw[Kt];congr 1⟩
 . rename_i hu;split at h
   case h_2=>cases h
   rename_i l;split at h
   case isFalse=>cases h
   rename_i hn1;subst hn1;cases h;simp only[Rel] at hr;subst hr;refine⟨_,.other _ _ _ .string hu (fun k e=>by cases e) (fun w' =>by simp[Builtin.lenOf];rfl) (fun w' _=>?_),Qgb E l,by simp⟩;have:=Qgs (P:=P) w' l l.length;rw[this];congr 2;exact Zhi (by simp)
 . rename_i el hu;obtain⟨a,cap,vs,rfl,h1,h2,h3,h4⟩:=Be (P:=P) S h hr;refine⟨vs,.other _ _ _ _ hu (fun k e=>by cases e) (fun w' =>rfl) (fun w' hw=>?_),h2,h3⟩;have:=h4 w' m hw (Ze8 _);rw[<-h3,Zg7] at this;exact this
 . cases h
theorem Qqe(S:Sim B F H E){mt:Nat->Bool}{fr:Nat}(hfr:fr<H.length){dst:Option Nat}{ts:Array TypeId}{t t2:TypeId}(ty:TypeId){s x:V}{cs cx:Value}{st:Yv}
 (ht:ts[0]?=some t)(ht2:ts[1]?=some t2)(h:Yi P mt fr (Qd H) dst t t2 s x=some st)(rs:Rel E s cs)(rx:Rel E x cx):
 Yd B F H E st ((Builtin.append_ ts ty #[cs,cx]).run P E.w):=by
 unfold Yi at h;split at h
 case h_2=>cases h
 rename_i e hu;split at h
 case h_2=>cases h
 rename_i n by_ z hn hb hzc;split at h
 case isFalse=>cases h
 rename_i hzl;obtain⟨zv,zvs,hzrun,hzcells,hzrel,_⟩:=Kd hzc E.w;have hz:zer P e=some zv:=by
  unfold zeroCells at hzc;cases hq:zer P e with
  |none=>rw[hq] at hzc;cases hzc
  |some q=>have:=Qb6 hq E.w;rw[hzrun] at this;cases this;rfl
 have hzvl:zvs.length=n:=by rw[<-(hzrel E).length];exact hzl
 have hzl2:∀k,(zerosN zv.cells.toList k).length=k*n:=by intro k;rw[Kt,hzcells];simp[hzvl]
 split at h
 . cases h
 . rename_i new hsrc;split at h
   case isFalse=>cases h
   rename_i hsl;cases h;obtain⟨news,hs,hrel,hl⟩:=Qkn S hz hzc hzl hsrc rx;obtain rfl:news=[]:=Zf7 (by simpa using hl);refine Yd.same S rs ?_;cases s<;>simp only[Qst,Ze7] at hsl<;>simp only[Rel] at rs
   . subst rs;exact B2 ht ht2 hu hn hb hs rfl (Ze8 _)
   . obtain⟨a,cap,vs,rfl,g1,_⟩:=rs;exact B2 ht ht2 hu hn hb hs rfl g1
   . obtain⟨b,off,cap,vs,rfl,g1,_⟩:=rs;exact B2 ht ht2 hu hn hb hs rfl g1
   . obtain⟨b,c',T,n',_,rfl,g1,_⟩:=rs;exact B2 ht ht2 hu hn hb hs rfl g1
   . obtain⟨b,cap,rfl,g1,_⟩:=rs;exact B2 ht ht2 hu hn hb hs rfl g1
 . rename_i new m hsrc;obtain⟨news,hs,hrel,hl⟩:=Qkn S hz hzc hzl hsrc rx
   replace hl:news.length=(m+1)*n:=hl
   unfold appendTo at h;split at h
   .
    split at h
    case isFalse=>cases h
    rename_i hr;simp only[Rel] at rs;subst rs;obtain⟨newCap,hcap,hrun⟩:=B4 (ty:=ty) (olds:=[]) (base:=none) (sLen:=0) (sCap:=0) ht ht2 hu hn hb hz rfl hs (fun w' _=>by simp[Builtin.firstCells]) (by omega) (by simpa using hr);rw[hrun];simp only[Zff,Zhh] at hcap⊢;exact Qho S hfr e h hrel hl hcap (hzl2 _)
   .
    rename_i cs0 len;split at h
    case isFalse=>cases h
    rename_i hr;obtain⟨hcl,hr⟩:=hr;have rs' :=rs;simp only[Rel] at rs;obtain⟨a,cap,vs,rfl,g1,g2,g3,g4,g5⟩:=rs;have:=g2 trivial;subst this;obtain⟨_,_,vs',he,_,k3,k4,k5⟩:=Be (P:=P) (esz:=n) (n:=cap) (cs:=cs0) S (by simp only[Z3,hcl,if_true]) rs';have hold:∀w' :World,w'.heap=E.w.heap->(Builtin.firstCells n cap (.slice (some a) cap cap)).run P w' = .ok ⟨vs'⟩ w' :=by intro w' hw;have:=k5 w' cap hw (Ze8 _);rw[<-k4,Zg7] at this;exact this
    obtain⟨newCap,hcap,hrun⟩:=B4 (ty:=ty) ht ht2 hu hn hb hz rfl hs hold (by omega) hr;rw[hrun];exact Qho S hfr e h (k3.append hrel) (by simp[k4,hl,Zhw]) hcap (hzl2 _)
   .
    rename_i f sl cs0 len e';split at h
    case isFalse=>cases h
    rename_i hr;obtain⟨rfl,hr,hsc⟩:=hr;split at h
    case h_2=>cases h
    rename_i k hg;split at h
    case isFalse=>cases h
    rename_i hk;subst hk;cases h;have rs' :=rs;simp only[Rel] at rs;obtain⟨b,off,cap,vs,rfl,g1,g3,g4,g6,g7,g8⟩:=rs;obtain⟨b',lo,hi,c,T,z,o1,o2,o3,o4,o5,o6⟩:=S.obj f sl _ hg;obtain⟨_,q⟩:=g8 _ _ _ _ o1;obtain⟨rfl,rfl,rfl⟩:=q rfl;have hvl:vs.length=k*e' :=by rw[<-g4.length];exact g6
    have hadd:(k+(m+1))*e' =k*e' +(m+1)*e' :=by rw[Zhw]
    by_cases hfit:k+(m+1)<=cap
    .
     have hle:(k+(m+1))*e' <=cap*e' :=Zgc _ hfit;have hnl:off+k*e' +news.length<=c.size:=by rw[hl];omega
     have h1:∀v∈news,v.oneCell' =true:=Qbm hrel hsc;have hrun:=Qdn (ty:=ty) ht ht2 hu hn hb hs hfit o3 hnl h1 (o6.imp id (fun h=>by rw[hl];omega));obtain⟨X,S'⟩:=S.growTok hg o1 o3 (k+(m+1)) (off+(k+(m+1))*e') (by omega) (by omega) (by omega) (splice c.toList (off+k*e') news)
      (by rw[Xf _ _ _ (by simpa using hnl)];simp)
      (by
        intro i hi;rw[Qoj _ _ _ _ (by simpa using hnl)];rw[hl];by_cases e1:i<off+k*e'
        . rw[if_pos e1];simp
        . rw[if_neg e1,if_neg (by omega)];simp)
     rw[hrun];refine⟨_,_,_,_,rfl,X,S',?_,rfl⟩;simp only[Rel];refine⟨b',off,cap,vs++news,rfl,hfit,?_,(Qr.mono X S.lt _ _ g4).append (Qr.mono X S.lt _ _ hrel),?_,?_,?_⟩
     . intro i v hv;by_cases e1:i<vs.length
       . rw[Zfy e1] at hv;exact(g3.mono X) i v hv
       . rw[Zfz (by omega)] at hv;have hi:i-vs.length<news.length:=(Zf0.1 hv).1;refine⟨?_,fun hm=>?_⟩
         . have hs:=setRow_heap E.w b' c ⟨splice c.toList (off+k*e') news⟩ T z o3;simp only[Env.growTok,World.cell?,hs];have:=Qoj c.toList news (off+k*e') (off+i) (by simpa using hnl);rw[if_neg (by omega),if_pos (by omega),show off+i-(off+k*e')=i-vs.length by omega] at this;simpa [this] using hv
         . simp only[Env.growTok] at hm;exact hm.2 ⟨trivial,by omega,by omega⟩
     . simp only[Zfv];rw[g6,hrel.length,hl,hadd]
     . have:(E.mu f sl).isSome=true:=g7;simpa [Env.growTok] using this
     . intro n' b2 lo2 hi2 e;simp only[Env.growTok,Q0,Zic,Prod.mk.injEq] at e;obtain⟨rfl,rfl,rfl,rfl⟩:=e;exact⟨Ze8 _,fun _=>⟨rfl,rfl,rfl⟩⟩
    . have hold:∀w' :World,w'.heap=E.w.heap->(Builtin.firstCells e' k (.slice (some ⟨b',off,none⟩) k cap)).run P w' = .ok ⟨vs⟩ w' :=by
       intro w' hw;have:=Ka (P:=P) (g3.lies.heap hw) hvl (Ze8 k) k (cap:=cap);rw[<-hvl,Zg7] at this;exact this
      obtain⟨newCap,hcap,hrun⟩:=B4 (ty:=ty) ht ht2 hu hn hb hz rfl hs hold (by omega) hr;rw[hrun];have hrl:=hzl2 (newCap-(k+(m+1)));have hcl:(k+(m+1))*e' +(newCap-(k+(m+1)))*e' =newCap*e' :=by rw[<-Zhw];congr 1;omega
      have hlen:(vs++news++zerosN zv.cells.toList (newCap-(k+(m+1)))).length=newCap*e' :=by simp only[Zfv,hrl,hvl,hl];omega
      obtain⟨X,S',hrow⟩:=S.moveTok hg o1 (k+(m+1)) ((k+(m+1))*e') (newCap*e') (by omega) (vs++news++zerosN zv.cells.toList (newCap-(k+(m+1)))) e (E.w.drawn+1) (by omega);have htake:(vs++news++zerosN zv.cells.toList (newCap-(k+(m+1)))).take ((k+(m+1))*e')=vs++news:=by
       have:(vs++news).length=(k+(m+1))*e' :=by simp only[Zfv,hvl,hl];omega
       rw[<-this,List.take_left'];rfl
      rw[htake] at hrow;refine⟨_,_,_,.slice (some ⟨E.w.heap.size,0,none⟩) (k+(m+1)) newCap,rfl,X,S',?_,rfl⟩;simp only[Rel];refine⟨E.w.heap.size,0,newCap,vs++news,rfl,hcap,hrow,(Qr.mono X S.lt _ _ g4).append (Qr.mono X S.lt _ _ hrel),?_,?_,?_⟩
      . simp only[Zfv];rw[g6,hrel.length,hl,hadd]
      . have:(E.mu f sl).isSome=true:=g7;simpa [Env.moveTok] using this
      . intro n' b2 lo2 hi2 e;simp only[Env.moveTok,Q0,Zic,Prod.mk.injEq] at e;obtain⟨rfl,rfl,rfl,rfl⟩:=e;exact⟨Ze8 _,fun _=>⟨rfl,by omega,by omega⟩⟩
   .
    rename_i f sl len e';split at h
    case isFalse=>cases h
    rename_i hr;obtain⟨rfl,hr,hsc,hnlen⟩:=hr;split at h
    case h_2=>cases h
    rename_i xs0 k hg;split at h
    case isFalse=>cases h
    rename_i hk;obtain⟨rfl,hxl⟩:=hk;cases h;simp only[Rel] at rs;obtain⟨b,cap,rfl,g1,g7,g8⟩:=rs;obtain⟨b',lo,hi,c,T,vs,rest,o1,o2,o3,o4,o5,o6,o7,o8,o9⟩:=S.liesMg hg;obtain⟨rfl,rfl,rfl⟩:=(g8 _ _ _ _ o1).2 rfl;have hvl:vs.length=k*e' :=o6.length.symm.trans hxl;have hadd:(k+(m+1))*e' =k*e' +(m+1)*e' :=by rw[Zhw]
    have hcs:c.size=vs.length+rest.length:=by
     have:c.toList.length=(vs++rest).length:=by rw[o5]
     simpa using this
    have hall:(xs0++new).all V.scalar=true:=by rw[List.all_append,o8,hsc];rfl
    by_cases hfit:k+(m+1)<=cap
    . have hle:(k+(m+1))*e' <=cap*e' :=Zgc _ hfit;have hnl:0+k*e' +news.length<=c.size:=by rw[hl];omega
      have h1:∀v∈news,v.oneCell' =true:=Qbm hrel hsc;have hrun:=Qdn (ty:=ty) ht ht2 hu hn hb hs hfit o3 hnl h1 (.inl rfl);have hsp:splice c.toList (0+k*e') news=(vs++news)++rest.drop news.length:=by
       unfold splice;rw[o5,Zff,<-hvl,List.take_left',<-Zfs,List.drop_left']
       . rfl
       . rfl
      have hcl:((vs++news)++rest.drop news.length).length=c.size:=by rw[<-hsp,Xf _ _ _ (by simpa using hnl)];simp
      obtain⟨X,S'⟩:=S.setMg hg o1 o3 (k+(m+1)) ((k+(m+1))*e') (.inl (by omega)) (xs0++new) (vs++news) (rest.drop news.length) hcl (o6.append hrel) hall;rw[hrun,hsp];refine⟨_,_,_,_,rfl,X,S',?_,rfl⟩;simp only[Rel];refine⟨b',cap,rfl,hfit,?_,?_⟩
      . have:(E.mu f sl).isSome=true:=g7;simpa [Env.setMg] using this
      . intro n' b2 lo2 hi2 e;simp only[Env.setMg,Q0,Zic,Prod.mk.injEq] at e;obtain⟨rfl,rfl,rfl,rfl⟩:=e;exact⟨Ze8 _,fun _=>⟨rfl,rfl,rfl⟩⟩
    . have hold:∀w' :World,w'.heap=E.w.heap->(Builtin.firstCells e' k (.slice (some ⟨b',0,none⟩) k cap)).run P w' = .ok ⟨vs⟩ w' :=by
       intro w' hw;have:=Ka (P:=P) (o9.heap hw) hvl (Ze8 k) k (cap:=cap);rw[<-hvl,Zg7] at this;exact this
      obtain⟨newCap,hcap,hrun⟩:=B4 (ty:=ty) ht ht2 hu hn hb hz rfl hs hold (by omega) hr;rw[hrun];have hrl:=hzl2 (newCap-(k+(m+1)));have hcl:(k+(m+1))*e' +(newCap-(k+(m+1)))*e' =newCap*e' :=by rw[<-Zhw];congr 1;omega
      have hlen:(vs++news++zerosN zv.cells.toList (newCap-(k+(m+1)))).length=newCap*e' :=by simp only[Zfv,hrl,hvl,hl];omega
      obtain⟨X,S'⟩:=S.moveMg hg o1 (k+(m+1)) ((k+(m+1))*e') (newCap*e') (by omega) (xs0++new) (vs++news) (zerosN zv.cells.toList (newCap-(k+(m+1)))) e (E.w.drawn+1) (by omega) (o6.append hrel) hall;refine⟨_,_,_,.slice (some ⟨E.w.heap.size,0,none⟩) (k+(m+1)) newCap,rfl,X,S',?_,rfl⟩;simp only[Rel];refine⟨E.w.heap.size,newCap,rfl,hcap,?_,?_⟩
      . have:(E.mu f sl).isSome=true:=g7;simpa [Env.moveMg] using this
      . intro n' b2 lo2 hi2 e;simp only[Env.moveMg,Q0,Zic,Prod.mk.injEq] at e;obtain⟨rfl,rfl,rfl,rfl⟩:=e;exact⟨Ze8 _,fun _=>⟨rfl,rfl,rfl⟩⟩
   . rename_i f sl o len cap e';split at h
     case isFalse=>cases h
     rename_i hr;obtain⟨rfl,hr⟩:=hr;split at h
     case h_2=>cases h
     rename_i xs hg;have rs' :=rs;simp only[Rel] at rs;obtain⟨b,c',T',n',hmu,rfl,g1,g2,g3,g4,g5⟩:=rs;obtain⟨b2,c,T,vs,rest,q1,q2,q3,q4,q5,q6,q7,q8⟩:=S.lies hg;rw[hmu] at q1;cases q1;have hvl:=q5.length;have hcs:c.size=vs.length+rest.length:=by have:=congrArg List.length q4;simpa using this
     have hn' :n' =c.size:=by simp only[World.shape?,q3,Zic,Prod.mk.injEq] at g3;exact g3.2.symm
     have hadd:(len+(m+1))*e' =len*e' +(m+1)*e' :=by rw[Zhw]
     have room:o+(len+(m+1))*e' <=xs.length->new.all V.scalar=true->len+(m+1)<=c' ->
      Yd B F H E (.val (.mS f sl o (len+(m+1)) cap e') (some (f,sl,.cells (splice xs (o+len*e') new)))) ((Builtin.append_ ts ty #[.slice (some ⟨b,o,none⟩) len c',cx]).run P E.w):=by
      intro hle hsc hfit;have hnl:o+len*e' +news.length<=c.size:=by rw[hl];omega
      have hrun:=Qdn (ty:=ty) ht ht2 hu hn hb hs hfit q3 hnl (Qbm hrel hsc);have hnl2:o+len*e' +news.length<=vs.length:=by rw[hl];omega
      obtain⟨X,S'⟩:=S.setCells hg hmu q3 q4 q6 q2 (splice xs (o+len*e') new) (splice vs (o+len*e') news) (q5.splice hrel _) (Qct _ q7 hsc)
       (Xf _ _ _ hnl2)
      rw[hrun];refine⟨_,_,_,.slice (some ⟨b,o,none⟩) (len+(m+1)) c',rfl,X,S',?_,?_⟩
      . simp only[Rel];exact⟨b,c',T',n',X.mu _ _ _ (Q9 hg) hmu,rfl,hfit,g2,X.shape _ _ _ g3,g4,g5⟩
      . simp only[Env.setRow];rw[q4,Qba _ _ _ _ hnl2]
     split at h
     . rename_i k;have hk:=g2 k rfl;subst hk;split at h
       . rename_i hfit;split at h
         case isFalse=>cases h
         rename_i hh;cases h;exact room hh.1 hh.2 hfit
       . rename_i hnf;split at h
         case isFalse=>cases h
         rename_i hh;obtain⟨_,_,vs',he,_,k3,k4,k5⟩:=Be (P:=P) (esz:=e') (n:=len) (cs:=(xs.drop o).take (len*e')) S (by simp only[Z3,hg,hh,and_self,if_true]) rs';have hold:∀w' :World,w'.heap=E.w.heap->(Builtin.firstCells e' len (.slice (some ⟨b,o,none⟩) len c')).run P w' = .ok ⟨vs'⟩ w' :=by intro w' hw;have:=k5 w' len hw (Ze8 _);rw[<-k4,Zg7] at this;exact this
         obtain⟨newCap,hcap,hrun⟩:=B4 (ty:=ty) ht ht2 hu hn hb hz rfl hs hold (by omega) hr;rw[hrun];exact Qho S hfr e h (k3.append hrel) (by simp only[Zfv,k4,hl];omega) hcap (hzl2 _)
     . split at h
       case isFalse=>cases h
       rename_i hh;cases h;refine room hh.1 hh.2.1 ?_;have e1:=g5 rfl;have:(len+(m+1))*e' <=c' *e' :=by omega
       exact Nat.le_of_mul_le_mul_right this hh.2.2
   . cases h
end Go.AM
namespace Go.AM
variable {P : Program} {E : Env} {B : Nat} {F : Nat -> Nat -> Prop} {H : Qg}
theorem Qqs(S:Sim B F H E){n m:Nat}{x:V}{cs:List V}{c:Value}(h:Qf4 (Qd H) n x=some (cs,m))(hr:Rel E x c):
 ∃vs,(∀w:World,(Builtin.lenOf c).run P w= .ok m w)/\Qr E cs vs/\vs.length=m*n/\(∀k,k<=m->(Builtin.firstCells n k c).run P E.w= .ok ⟨vs.take (k*n)⟩ E.w):=by
 unfold Qf4 at h;split at h
 . rename_i l;split at h
   case isFalse=>cases h
   rename_i hn;subst hn;cases h;simp only[Rel] at hr;subst hr;exact⟨_,fun w=>by simp[Builtin.lenOf];rfl,Qgb E l,by simp,fun k _=>Qgs E.w l k⟩
 . obtain⟨a,cap,vs,rfl,h1,h2,h3,h4⟩:=Be (P:=P) S h hr;exact⟨vs,fun w=>rfl,h2,h3,fun k hk=>h4 E.w k rfl hk⟩
theorem Qty(S:Sim B F H E){ts:Array TypeId}{t:TypeId}(ty:TypeId){d s:V}{cd cs:Value}{st:Yv}(ht:ts[0]?=some t)(h:Qgq P (Qd H) t d s=some st)
 (rd:Rel E d cd)(rs:Rel E s cs):Yd B F H E st ((Builtin.copy_ ts ty #[cd,cs]).run P E.w):=by
 unfold Qgq at h;split at h
 case h_2=>cases h
 rename_i e hu;split at h
 case h_2=>cases h
 rename_i n hn;split at h
 case h_2=>cases h
 rename_i xs m hsrc;obtain⟨vs,h1,h2,h3,h4⟩:=Qqs (P:=P) S hsrc rs;unfold Qgv at h;split at h
 . cases h;simp only[Rel] at rd;subst rd;refine Yd.same S (cv:=goInt 0) (by simp[Rel,goInt]) ?_;have:=h4 0 (Nat.zero_le _);simp only[Builtin.copy_,ht,Qub,Qv8,Zie,Qw hu,Zid,h1,K8 hn,Nat.min_eq_min,Nat.min_zero,this,Zif];rfl
 . rename_i f sl o len cap e';split at h
   case isFalse=>cases h
   rename_i he;subst he;split at h
   case h_2=>cases h
   rename_i ys hg;split at h
   case isFalse=>cases h
   rename_i hh;obtain⟨hle,hsc⟩:=hh;cases h;simp only[Rel] at rd;obtain⟨b,c',T',n',hmu,rfl,g1,g2,g3,g4,g5⟩:=rd;obtain⟨b2,c,T,us,rest,q1,q2,q3,q4,q5,q6,q7,q8⟩:=S.lies hg;rw[hmu] at q1;cases q1;have hk:min m len<=m:=Nat.min_le_left _ _;have hrun:=h4 (min m len) hk;have hul:=q5.length;have hkl:min m len*e' <=len*e' :=Zgc _ (Nat.min_le_right _ _);have htl:(vs.take (min m len*e')).length<=min m len*e' :=by simp;omega
   have hcs:c.size=us.length+rest.length:=by have:=congrArg List.length q4;simpa using this
   have hfit:o+(vs.take (min m len*e')).length<=us.length:=by omega
   have hst:=run_storeCells_at P b o T (vs.take (min m len*e')) 0 c E.w q3 (by simp only[Zhd];omega) (Qbm (h2.take _) hsc);simp only[Zhd] at hst;obtain⟨X,S'⟩:=S.setCells hg hmu q3 q4 q6 q2 (splice ys o (xs.take (min m len*e'))) (splice us o (vs.take (min m len*e'))) (q5.splice (h2.take _) _) (Qct _ q7 hsc)
    (Xf _ _ _ hfit)
   refine⟨_,_,_,goInt (min m len:Nat),rfl,X,S',by simp[Rel,goInt],?_⟩;simp only[Builtin.copy_,ht,Qub,Qv8,Zie,Qw hu,Zid,h1,K8 hn,Nat.min_eq_min,hrun,hst,Zif,Env.setRow];rw[<-Qba _ _ _ _ hfit,<-q4];rfl
 . cases h
theorem Qtk(S:Sim B F H E){ts:Array TypeId}{t:TypeId}(ty:TypeId){d:V}{cd:Value}{st:Yv}(ht:ts[0]?=some t)(h:Qi3 P (Qd H) t d=some st)
 (rd:Rel E d cd):Yd B F H E st ((Builtin.clear_ ts ty #[cd]).run P E.w):=by
 have a0:(#[cd]:Array Value)[0]?=some cd:=rfl;unfold Qi3 at h;split at h
 case h_2=>cases h
 rename_i e hu;split at h
 case h_3=>cases h
 . cases h;simp only[Rel] at rd;subst rd;refine Yd.same S (cv:= .tuple #[]) (by simp only[Rel];exact⟨[],rfl,.nil⟩) ?_;simp only[Builtin.clear_,ht,a0,Zie,Qw hu,Zid,Zif]
 . rename_i f sl o len cap e';split at h
   case h_2=>cases h
   rename_i n z hn hz;split at h
   case isFalse=>cases h
   rename_i he;obtain⟨rfl,hzl⟩:=he;simp only[Rel] at rd;obtain⟨b,c',T',n',hmu,rfl,g1,g2,g3,g4,g5⟩:=rd;split at h
   . rename_i h0;cases h;subst h0;refine Yd.same S (cv:= .tuple #[]) (by simp only[Rel];exact⟨[],rfl,.nil⟩) ?_;simp only[Builtin.clear_,ht,a0,Zie,Qw hu,Zid,Zif]
   rename_i h0;split at h
   case h_2=>cases h
   rename_i ys hg;split at h
   case isFalse=>cases h
   rename_i hle;cases h;obtain⟨zv,vs,z1,z2,z3,z4⟩:=Kd hz E.w;obtain⟨b2,c,T,us,rest,q1,q2,q3,q4,q5,q6,q7,q8⟩:=S.lies hg;rw[hmu] at q1;cases q1;have hul:=q5.length;have hvl:vs.length=e' :=by rw[<-(z3 E).length];exact hzl
   have hZ:(zerosN vs len).length=len*e' :=by rw[Kt,hvl]
   have hcs:c.size=us.length+rest.length:=by have:=congrArg List.length q4;simpa using this
   have hfit:o+(zerosN vs len).length<=us.length:=by omega
   have hsc:(zerosN z len).all V.scalar=true:=Qfw z4 len;have hst:=run_storeCells_at P b o T (zerosN vs len) 0 c E.w q3 (by simp only[Zhd];omega) (Qbm ((z3 E).zerosN len) hsc);simp only[Zhd] at hst;obtain⟨X,S'⟩:=S.setCells hg hmu q3 q4 q6 q2 (splice ys o (zerosN z len)) (splice us o (zerosN vs len)) (q5.splice ((z3 E).zerosN len) _) (Qct _ q7 hsc)
    (Xf _ _ _ hfit)
   refine⟨_,_,_,.tuple #[],rfl,X,S',by simp only[Rel];exact⟨[],rfl,.nil⟩,?_⟩;have hl0:∃k,len=k+1:=⟨len-1,by omega⟩;obtain⟨k,rfl⟩:=hl0;have zf:(Builtin.zeroCells zv.cells (k+1)).toList=zerosN vs (k+1):=by rw[z2,Qao]
   simp only[Builtin.clear_,ht,a0,Zie,Qw hu,Zid,z1,zf,hst,Zif,Env.setRow];rw[<-Qba _ _ _ _ hfit,<-q4];rfl
theorem Qmt:∀(l:List UInt8),Zt (Qp l)=true
 |[]=>rfl
 |b::l=>by simp only[Qp,Zfn,Zt,V.pure,Zge];exact Qmt l
theorem Qmn{α:Type}(a:Array α)(x:α)(f:α->α):(a.push x).modify a.size f=a.push (f x):=by
 apply Array.ext
 . simp
 . intro i h1 h2;simp only[Array.getElem_modify,Array.getElem_push];by_cases e:a.size=i
   . subst e;simp
   . have:i<a.size:=by simp at h2;omega
     simp[e,this]
theorem Qnw(w:World):∀(cs:List V) (vs:List Value) (l acc:List UInt8),bytesOf cs=some l->Qr E cs vs->
 (forIn (m:=Sem) vs (⟨⟨acc⟩⟩:ByteArray) fun c s=>(match c with
   |Value.int .u8 n=>pure (ForInStep.yield (s.push (UInt8.ofNat n.toNat)))
   |_=>do
    stuck "bytesToString: byte expected"
    pure (ForInStep.yield s):Sem (ForInStep ByteArray))).run P w= .ok ⟨⟨acc++l⟩⟩ w
 |[],vs,l,acc,h,hr=>by
  rw[Qr.nil_iff] at hr;subst hr;cases h;simp
 |x::cs,vs,l,acc,h,hr=>by
  obtain⟨v,r,rfl,hv,hr2⟩:=Qr.cons_iff.1 hr;clear hr;unfold bytesOf at h;split at h
  . rename_i e;cases e
  . rename_i n r' e;injection e with e1 e2;subst e1;subst e2;simp only[Rel] at hv;subst hv;cases hb:bytesOf cs with
    |none=>rw[hb] at h;cases h
    |some l' =>
     rw[hb] at h;cases h;have:=Qnw w cs r l' (acc++[UInt8.ofNat n.toNat]) hb hr2;simp only[List.forIn_cons,Zie,Zif,Zid];have e:(⟨⟨acc⟩⟩:ByteArray).push (UInt8.ofNat n.toNat)=⟨⟨acc++[UInt8.ofNat n.toNat]⟩⟩:=by apply ByteArray.ext;simp[ByteArray.push]
     rw[e,this];simp
  . cases h
theorem Sim.die(S:Sim B F H E){f0 s0:Nat}{xs:List V}(ho:Qd H f0 s0=some (.cells xs)){b:Nat}(hmu:E.mu f0 s0=some b){c:Array Value}{T:TypeId}{fz:Nat×Nat}(hb:E.w.heap[b]?=some (.cells c T (0,0)))(hB:B<=b)
 (w' :World)(hsz:w'.heap.size=E.w.heap.size)(hoth:∀b',b' ≠b->w'.heap[b']?=E.w.heap[b']?)(hself:w'.heap[b]?=some (.cells c T fz))(hrest:w'.tape=E.w.tape/\w'.os=E.w.os/\w'.output=E.w.output):
 Ext H.length B E {E with w:=w',mod:=fun b' i=>E.mod b' i/\b' ≠b}/\Sim B F (Qs H f0 s0 .dead) {E with w:=w',mod:=fun b' i=>E.mod b' i/\b' ≠b}:=by
 have hcell:∀b' i,w'.cell? ⟨b',i,none⟩=E.w.cell? ⟨b',i,none⟩:=by
  intro b' i;by_cases e:b' =b
  . subst e;simp only[World.cell?,hself,hb]
  . exact K5 (hoth b' e) i
 have hshape:∀b',w'.shape? b' =E.w.shape? b' :=by
  intro b';by_cases e:b' =b
  . subst e;simp only[World.shape?,hself,hb]
  . exact Kr (hoth b' e)
 have X:Ext H.length B E {E with w:=w',mod:=fun b' i=>E.mod b' i/\b' ≠b}:=by
  refine⟨by simp only[hsz];exact Ze8 _,fun b' T n h=>by simp only[hshape];exact h,fun b' i v _ h=>by simp only[hcell];exact h,fun b' i v _ h hm=>h hm.1,fun _ _ _ _ h=>h,
   fun f s n b lo hi _ _ h=>⟨n,b,lo,hi,h,.inr ⟨rfl,rfl,rfl,rfl⟩⟩,fun b' hb' =>hoth b' (by omega),hrest,rfl,fun b' h=>by simp only;rw[hoth b' (by rintro rfl;rw[hb] at h;cases h)];exact h⟩
 have hblk:blk E f0 s0 (.cells xs)=some b:=hmu;refine⟨X,S.step f0 s0 .dead (Q9 ho) X (fun f s e=>rfl) (by simp[hmu]) (fun f s e=>rfl) ?_ ?_ ?_ ?_ trivial ?_⟩
 . intro n x h;obtain⟨_,q1,q2⟩:=S.nreg f0 s0 n x h;rw[ho] at q1;cases q1;cases q2
 . intro f s o b' e ho' hb';have hne:b' ≠b:=fun e' =>e (S.inj f s o f0 s0 _ b' ho' ho hb' (e' ▸hblk));exact⟨hoth b' hne,fun i h=>⟨h,hne⟩⟩
 . exact fun b' i h=>⟨S.fmod b' i h,fun e=>by have:=S.fb b' i h;omega⟩
 . intro b' i h;simp only[hsz];exact S.modsz b' i h.1
 . intro f s o b' e ho' hb' h;cases h
theorem Q0e(w:World)(b n:Nat){c:Array Value}{T:TypeId}{fz:Nat×Nat}(hb:w.heap[b]?=some (.cells c T fz)):
 ∃fz',(w.freeze ⟨b,n,none⟩ 1).heap[b]?=some (.cells c T fz')/\(w.freeze ⟨b,n,none⟩ 1).heap.size=w.heap.size/\(∀b',b' ≠b->(w.freeze ⟨b,n,none⟩ 1).heap[b']?=w.heap[b']?)/\
  ((w.freeze ⟨b,n,none⟩ 1).tape=w.tape/\(w.freeze ⟨b,n,none⟩ 1).os=w.os/\(w.freeze ⟨b,n,none⟩ 1).output=w.output):=by
 unfold World.freeze;rw[if_neg (by decide)];simp only[Array.getElem?_modify,Array.size_modify,hb,if_true,Ze4];refine⟨_,rfl,trivial,fun b' h=>by rw[if_neg (fun e=>h e.symm)],trivial,trivial,trivial⟩
theorem Quf(S:Sim B F H E){mt:Nat->Bool}{fr:Nat}(hfr:fr<H.length){dst:Option Nat}{src d:TypeId}{x:V}{c:Value}{l:List UInt8}{st:Yv}(h:Qgu P mt dst src d x=some l)
 (hn:new (Qd H) fr dst (.grow l.length) (fun k=> .gS fr k (Qp l) l.length 1)=some st)(hr:Rel E x c):Yd B F H E st ((convert src d c).run P E.w):=by
 unfold Qgu at h;split at h
 case h_2=>cases h
 rename_i k e s hs hd;split at h
 case h_2=>cases h
 rename_i he;split at h
 case isFalse=>cases h
 cases h;obtain⟨d',hd',hg,rfl⟩:=Qap hn;cases hd';simp only[Rel] at hr;subst hr;generalize hcap:l.length+(E.w.tape E.w.drawn (.appendCap l.length 0 e))%(2^63-l.length)=cap;have hle:l.length<=cap:=by omega
 have e2:((l.map fun b=>Value.int .u8 b.toNat)++List.replicate (cap-l.length) (Value.int .u8 0)).length=cap:=by simp;omega
 obtain⟨X,S',hrow⟩:=S.newTok hfr hg l.length (l.length*1) (cap*1) ((l.map fun b=>Value.int .u8 b.toNat)++List.replicate (cap-l.length) (.int .u8 0)) e (E.w.drawn+1) (by rw[e2];omega) (cap,cap+1) (.inr (by simp));have htake:((l.map fun b=>Value.int .u8 b.toNat)++List.replicate (cap-l.length) (Value.int .u8 0)).take (l.length*1)=l.map fun b=>Value.int .u8 b.toNat:=by simp
 rw[htake] at hrow;refine⟨_,_,_,.slice (some ⟨E.w.heap.size,0,none⟩) l.length cap,rfl,X,S',?_,?_⟩
 . simp only[Rel];refine⟨E.w.heap.size,0,cap,l.map (fun b=>Value.int .u8 b.toNat),rfl,hle,hrow,Qgb _ l,by simp[Qp],by simp[Env.newTok,Q0],?_⟩;intro n' b' lo hi e;simp only[Env.newTok,Q0,Zic,Prod.mk.injEq] at e;obtain⟨rfl,rfl,rfl,rfl⟩:=e;exact⟨Ze8 _,fun _=>⟨rfl,by omega,by omega⟩⟩
 . have hsz:(⟨⟨l⟩⟩:ByteArray).size=l.length:=rfl;have hf:(Question.appendCap l.length 0 e).forced=false:=rfl;have hq:(Question.appendCap l.length 0 e).cut (E.w.tape E.w.drawn (.appendCap l.length 0 e))=cap:=hcap;simp only[convert,Zie,Qw hs,Qw hd,Qw he,Zid,Conv.stringToBytes,hsz,run_choose,hf,Ze7,if_false,hq,Xk,markStringish,run_shape];have hpush:∀(w:World) (o:Obj),({w with heap:=w.heap.push o}:World).heap[w.heap.size]?=some o:=fun w o=>by simp
   simp only[World.shape?,hpush];simp only[Zif,Zid,run_freeze];congr 1;have e1:(Array.map (fun b=>Value.int IntKind.u8 b.toNat) (⟨l⟩:Array UInt8)++Array.replicate (cap-l.length) (Value.int .u8 0))=
    ⟨(l.map fun b=>Value.int .u8 b.toNat)++List.replicate (cap-l.length) (.int .u8 0)⟩:=by
    apply Array.ext';simp
   simp only[World.freeze,Env.newTok,Env.push];rw[if_neg (by decide),e1];simp only[Qmn,beq_self_eq_true,if_true,List.size_toArray,e2]
theorem Qo6(S:Sim B F H E){src d:TypeId}{x:V}{c:Value}{st:Yv}(h:convertV P (Qd H) src d x=some st)(hr:Rel E x c):
 Yd B F H E st ((convert src d c).run P E.w):=by
 unfold convertV at h;split at h
 . rename_i q k k' n hs hd;cases h;simp only[Rel] at hr;subst hr;refine Yd.same S (cv:= .int k (k.wrap n)) (by simp[Rel]) ?_;simp[convert,Qw hs,Qw hd,Conv.intToInt]
 . rename_i s hs hd;cases h;simp only[Rel] at hr;subst hr;refine Yd.same S (cv:= .string ⟨⟨s⟩⟩) (by simp[Rel]) ?_;simp[convert,Qw hs,Qw hd]
 . rename_i e s hs hd;split at h
   case h_2=>cases h
   rename_i he;cases h;simp only[Rel] at hr;subst hr;generalize hcap:s.length+(E.w.tape E.w.drawn (.appendCap s.length 0 e))%(2^63-s.length)=cap;have hle:s.length<=cap:=by omega
   obtain⟨X,S',hrow⟩:=S.newRow ((s.map fun b=>Value.int .u8 b.toNat)++List.replicate (cap-s.length) (.int .u8 0)) e (cap,cap+1) (E.w.drawn+1);have hbytes:=Qgb (E.newRow ((s.map fun b=>Value.int .u8 b.toNat)++List.replicate (cap-s.length) (.int .u8 0)) e (cap,cap+1) (E.w.drawn+1)) s;refine⟨_,_,_,.slice (some ⟨E.w.heap.size,0,none⟩) s.length cap,rfl,X,S',?_,?_⟩
   . simp only[Rel];refine⟨_,cap,s.map (fun b=>Value.int .u8 b.toNat),rfl,hle,(fun h=>by cases h),.inr ⟨rfl,?_⟩,hbytes,Qmt s⟩;intro i v hv;exact hrow i v (by rw[Zfy (Zf0.1 hv).1];exact hv)
   . have hsz:(⟨⟨s⟩⟩:ByteArray).size=s.length:=rfl;have hf:(Question.appendCap s.length 0 e).forced=false:=rfl;have hq:(Question.appendCap s.length 0 e).cut (E.w.tape E.w.drawn (.appendCap s.length 0 e))=cap:=hcap;simp only[convert,Zie,Qw hs,Qw hd,Qw he,Zid,Conv.stringToBytes,hsz,run_choose,hf,Ze7,if_false,hq,Xk,markStringish,run_shape];have hpush:∀(w:World) (o:Obj),({w with heap:=w.heap.push o}:World).heap[w.heap.size]?=some o:=fun w o=>by simp
     simp only[World.shape?,hpush];simp only[Zif,Zid,run_freeze];congr 1;have e1:(Array.map (fun b=>Value.int IntKind.u8 b.toNat) (⟨s⟩:Array UInt8)++Array.replicate (cap-s.length) (Value.int .u8 0))=
      ⟨(s.map fun b=>Value.int .u8 b.toNat)++List.replicate (cap-s.length) (.int .u8 0)⟩:=by
      apply Array.ext';simp
     have e2:((s.map fun b=>Value.int .u8 b.toNat)++List.replicate (cap-s.length) (Value.int .u8 0)).length=cap:=by simp;omega
     simp only[World.freeze,Env.newRow,Env.push];rw[if_neg (by decide),e1];simp only[Qmn,beq_self_eq_true,if_true,List.size_toArray,e2]
 . rename_i x _ _ _ e hs hd;split at h
   case h_2=>cases h
   rename_i he;split at h
   case h_2=>cases h
   rename_i cs n hsl;cases hb:bytesOf cs with
   |none=>rw[hb] at h;cases h
   |some l=>
    rw[hb] at h;cases h;obtain⟨a,cap,vs,rfl,h1,h2,h3,h4⟩:=Be (P:=P) S hsl hr;refine Yd.same S (cv:= .string ⟨⟨l⟩⟩) (by simp[Rel]) ?_;have hf:=h4 E.w n rfl (Ze8 _);rw[<-h3,Zg7] at hf;simp only[convert,Zie,Qw hs,Qw hd,Zid];cases a with
    |none=>
     have hvs:vs=[]:=by simp only[Builtin.firstCells,Zif,Result.ok.injEq,and_true] at hf;simpa using hf.symm
     subst hvs;have hcs:cs=[]:=Zf7 h2.length;subst hcs;cases hb;simp only[Qw he,Zid,Conv.bytesToString,Zif];rfl
    |some a=>
     have hld:(loadCells a n).run P E.w= .ok ⟨vs⟩ E.w:=by simpa [Builtin.firstCells] using hf
     have:=Qnw (P:=P) E.w cs vs l [] hb h2;simp only[Zie,Qw he,Zid,Conv.bytesToString,hld];rw[<-Array.forIn_toList];simp only[Zhh] at this;have e0:ByteArray.empty=(⟨⟨[]⟩⟩:ByteArray):=rfl;rw[e0];exact(congrArg (fun r:Result ByteArray=>r.andThen fun a w' =>Sem.run P (pure (Value.string a)) w') this).trans rfl
 . rename_i e0 e f s n m hs hd;split at h
   case isFalse=>cases h
   rename_i hc;obtain⟨rfl,rfl⟩:=hc;split at h
   case h_2=>cases h
   rename_i xs he hg;split at h
   case isFalse=>cases h
   rename_i hp;cases h;simp only[Rel] at hr;obtain⟨b,c',T',n',hmu,rfl,h1,h2,h3,h4,_⟩:=hr;obtain⟨b',c,T,vs,rest,g1,g2,g3,g4,g5,g6,g7⟩:=S.obj f s _ hg;rw[hmu] at g1;cases g1;obtain⟨fz,k1,k2,k3,k4⟩:=Q0e E.w b n' g3;obtain⟨X,S'⟩:=S.die hg hmu g3 g2 (E.w.freeze ⟨b,n',none⟩ 1) k2 k3 k1 k4;have hsh:E.w.shape? b=some (T',n'):=h3;refine⟨_,_,_,.slice (some ⟨b,0,none⟩) n n,rfl,X,S',?_,?_⟩
   . simp only[Rel];refine⟨⟨b,0,none⟩,n,vs,rfl,Ze8 _,fun _=>rfl,.inr ⟨rfl,fun i v hv=>⟨?_,fun hm=>hm.2 rfl⟩⟩,Qr.mono X S.lt _ _ g5,hp.2⟩;have hcl:c[i]?=some v:=by
      rw[<-Array.getElem?_toList,g4,Zfy (Zf0.1 hv).1];exact hv
     simp only[World.cell?,Zff,k1];simpa using hcl
   . have:=h2 _ rfl;subst this;have e1:e0=e:=by rw[hs] at hd;cases hd;rfl
     subst e1;simp[convert,Qw hs,Qw he,markStringish,run_shape,hsh]
 . cases h
end Go.AM
end
