/- This file holds in one the texts DT, DU, DW, DZ, DX; each says at its head what it proves. -/
import Derived.Test.YtidniacddkalaaaGreatDoorT23
import Derived.Test.YtidniacddkalaaaGreatDoorT25
import Derived.Test.YtidniacddkalaaaGreatDoorT28
import Derived.Test.YtidniacddkalaaaGreatDoorT29
import Derived.Test.YtidniacddkalaaaGreatDoorT32
import Derived.Test.YtidniacddkalaaaGreatDoorT33
import Derived.Test.YtidniacddkalaaaGreatDoorT35
import Derived.Test.YtidniacddkalaaaGreatDoorT39
import Derived.Test.YtidniacddkalaaaGreatDoorT42
import Derived.Lib.AppendZeros
set_option linter.unusedSimpArgs false
set_option linter.unusedVariables false
section
set_option maxRecDepth 100000
namespace Go.Proofs.YtidniacddkalaaaGreatDoor
open Go.AM Go.AM.BM
attribute [local irreducible] U W
theorem Qs3{v:V}(h:Q37 v=true):∃c f,v= .iS c 256 f/\Ju c:=by
 cases v with
 |iS c n f=>
  simp only[Q37,Zr1] at h;obtain⟨h1,h2,h3⟩:=h;cases Zt7 h1
  replace h2:=Zt7 h2
  refine⟨c,f,rfl,h2,?_⟩;rw[<-h3];congr 1
 |_=>cases h
theorem Qka{bv:V}{rv:List V}(h:Qkp bv=some rv):∃fl,bv= .iS rv 256 fl/\rv.length=256/\(∀i,i<256->∃f,rv[i]?=some (.iS (Qrk (rv.getD i .bad)) 256 f))/\∀i,i<256->Ju (Qrk (rv.getD i .bad)):=by
 cases bv with
 |iS xs n f=>
  simp only[Qkp] at h;split at h
  case isFalse=>cases h
  rename_i hc;cases h;simp only[Zr1,Zr2] at hc;obtain⟨⟨h1,h2⟩,h3⟩:=hc;cases Zt7 h1
  replace h2:=Zt7 h2
  have key:∀i,i<256->∃c g,rv[i]?=some (.iS c 256 g)/\rv.getD i .bad= .iS c 256 g/\Ju c:=fun i hi=>by
   have hl:i<rv.length:=by omega
   obtain⟨c,g,e,hr⟩:=Qs3 (h3 rv[i] (Ztp hl));have e1:rv[i]?=some (.iS c 256 g):=by rw[Zra hl,e]
   exact⟨c,g,e1,by simp[List.getD,e1],hr⟩
  refine⟨f,rfl,h2,fun i hi=>?_,fun i hi=>?_⟩
  . obtain⟨c,g,e1,e2,_⟩:=key i hi;exact⟨g,by rw[e1,e2];rfl⟩
  . obtain⟨c,g,_,e2,hr⟩:=key i hi;rw[e2];exact hr
 |_=>cases h
theorem Qqw:∀(cs:List V) (j:Nat),Qej cs=true->2*j+1<cs.length->∃a c f,cs[2*j]?=some (.int .i64 a)/\0<=a/\a<256/\cs[2*j+1]?=some (.iS c 256 f)/\Ju c
 |[],j,_,h=>by simp at h
 |[x],j,_,h=>by simp at h
 |x::v::r,j,h,hl=>by
  unfold Qej at h;split at h
  . rename_i e;cases e
  . rename_i a v' r' e;cases e;simp only[Zr1,decide_eq_true_eq] at h;obtain⟨⟨⟨h1,h2⟩,h3⟩,h4⟩:=h;cases j with
    |zero=>
     obtain⟨c,f,rfl,hc⟩:=Qs3 h3;exact⟨a,c,f,rfl,h1,h2,rfl,hc⟩
    |succ j=>
     obtain⟨b,c,f,q1,q2,q3,q4,q5⟩:=Qqw r j h4 (by simp only[Zrs] at hl;omega);exact⟨b,c,f,by rw[show 2*(j+1)=2*j+1+1 by omega];simpa using q1,q2,q3,by rw[show 2*(j+1)+1=2*j+1+1+1 by omega];simpa using q4,q5⟩
  . cases h
def waA(cs:List V)(j:Nat):Int:=match cs.getD (2*j) .bad with
 | .int _ a=>a
 |_=>0
def waD(cs:List V)(j:Nat):List V:=Qrk (cs.getD (2*j+1) .bad)
theorem Ql5{wv:V}{cs:List V}{n:Nat}(h:Qkj wv=some (cs,n)):Q0 2 wv cs n/\n<=4096/\(∀j,j<n->cs[2*j]?=some (.int .i64 (waA cs j))/\∃fl,cs[2*j+1]?=some (.iS (waD cs j) 256 fl))/\(∀j,j<n->0<=waA cs j/\waA cs j<256)/\∀j,j<n->Ju (waD cs j):=by
 have key:∀cs n,Qej cs=true->cs.length=n*2->(∀j,j<n->cs[2*j]?=some (.int .i64 (waA cs j))/\∃fl,cs[2*j+1]?=some (.iS (waD cs j) 256 fl))/\(∀j,j<n->0<=waA cs j/\waA cs j<256)/\∀j,j<n->Ju (waD cs j):=fun cs n h hl=>by
  have q:∀j,j<n->∃f,cs[2*j]?=some (.int .i64 (waA cs j))/\cs[2*j+1]?=some (.iS (waD cs j) 256 f)/\(0<=waA cs j/\waA cs j<256)/\Ju (waD cs j):=fun j hj=>by
   obtain⟨a,c,f,q1,q2,q3,q4,q5⟩:=Qqw cs j h (by omega);have e1:waA cs j=a:=by simp[waA,List.getD,q1]
   have e2:waD cs j=c:=by simp[waD,List.getD,q4,Qrk]
   rw[e1,e2];exact⟨f,q1,q4,⟨q2,q3⟩,q5⟩
  exact⟨fun j hj=>by obtain⟨f,q1,q2,_⟩:=q j hj;exact⟨q1,f,q2⟩,fun j hj=>by obtain⟨f,_,_,q,_⟩:=q j hj;exact q,fun j hj=>by obtain⟨f,_,_,_,q⟩:=q j hj;exact q⟩
 cases wv with
 |nS=>
  cases h;exact⟨Q0.nil,by omega,fun j hj=>by omega,fun j hj=>by omega,fun j hj=>by omega⟩
 |iS xs m f=>
  simp only[Qkj] at h;split at h
  case isFalse=>cases h
  rename_i hc;cases h;simp only[Zr1] at hc;obtain⟨⟨h1,h2⟩,h3⟩:=hc
  replace h1:=Zt7 h1
  replace h2:=Ztq h2
  exact⟨Q0.mk h1,h2,key _ _ h3 h1⟩
 |_=>cases h
theorem Qi8(x v:V):∀(l:List V) (i:Nat),l.length=2*i->Qez (l++[x,v])=Qez l++[x,BM.newRow false v]
 |[],_,_=>rfl
 |[y],i,h=>by simp at h;omega
 |y::z::l,i,h=>by
  show y::BM.newRow false z::Qez (l++[x,v])=_;rw[Qi8 x v l (i-1) (by simp only[Zrs] at h;omega)];rfl
theorem Qhr(cs:List V)(n:Nat)(hl:cs.length=n*2)(h:∀j,j<n->cs[2*j]?=some (.int .i64 (waA cs j))/\∃fl,cs[2*j+1]?=some (.iS (waD cs j) 256 fl)):∀i,i<=n->Qb9 (waA cs) (waD cs) i=Qez (cs.take (2*i))
 |0,_=>rfl
 |i+1,hi=>by
  obtain⟨q1,f,q2⟩:=h i (by omega);obtain⟨l1,g1⟩:=Zsm.1 q1;obtain⟨l2,g2⟩:=Zsm.1 q2;have e:cs.take (2*(i+1))=cs.take (2*i)++[.int .i64 (waA cs i),.iS (waD cs i) 256 f]:=by rw[show 2*(i+1)=2*i+1+1 by omega,Zty l2,Zty l1,g1,g2,Zsz];rfl
  rw[e,Qi8 _ _ _ i (by rw[Zsv];omega),<-Qhr cs n hl h i (by omega),Qd1];rfl
theorem Qqh(rv cs:List V)(n:Nat)(hr:rv.length=256)(hl:cs.length=n*2)(h:∀j,j<n->cs[2*j]?=some (.int .i64 (waA cs j))/\∃fl,cs[2*j+1]?=some (.iS (waD cs j) 256 fl)):
 Q1y (fun i=>Qrk (rv.getD i .bad)) (waA cs) (waD cs) n=Qtw rv cs n:=by
 have e1:((List.range 256).map fun j=>V.iS (Qrk (rv.getD j .bad)) 256 true)=rv.map (BM.newRow true):=by
  apply Zs7;intro i;by_cases hi:i<256
  . rw[Zt4,Zt4,List.getElem?_range hi,Zra (by omega)];simp[BM.newRow,List.getD,Zra (show i<rv.length by omega)]
  . rw[Zrd (by simp;omega),Zrd (by simp;omega)]
 have e2:=Qhr cs n hl h n (Zrf n);rw[Ztz (by omega)] at e2;simp only[Q1y,Qtw,e1,e2]
theorem Q8p(ys:List V)(v:V)(h:Q3t ys=some v):Fz Tryz.prog Qg 125 ys (· =v):=by
 unfold Q3t at h;split at h
 case h_2=>cases h
 rename_i bv wv;split at h
 case h_2=>cases h
 rename_i rv cs n hb hw;cases h;obtain⟨fl,rfl,h1,h2,h3⟩:=Qka hb;obtain⟨w1,w2,w3,w4,w5⟩:=Ql5 hw;have:=Zcc rv fl _ h1 h2 h3 wv cs n w1 w2 (waA cs) (waD cs) w3 w5;rw[Qqh rv cs n h1 w1.1 w3] at this;exact this
theorem Zck(ys:List V)(v:V)(h:kNew ys=some v):Fz Tryz.prog Qg 103 ys (· =v):=by
 unfold kNew at h;split at h
 case h_2=>cases h
 cases h;exact new_fz
end Go.Proofs.YtidniacddkalaaaGreatDoor
namespace Go.Proofs.YtidniacddkalaaaGreatDoor
open Go.AM Go.AM.BM
attribute [local irreducible] U W
theorem Q7e:CW Tryz.prog Qg 112 [.agg [.nS,.nS]] [] fun x _=>x= .ret (.int .i64 8):=by
 refine Kb Tryz.func112 rfl ?_;have l1:∀g,Y4 Tryz.prog g 22 .nS=some (.int .i64 0):=fun g=>Q0.nil (esz:=1)|>.len Tryz.underlying22 g;have l2:∀g,Y4 Tryz.prog g 23 .nS=some (.int .i64 0):=fun g=>Q0.nil (esz:=2)|>.len Tryz.underlying23 g;simp only[wA,↓Qc,simprocAttr,Tryz.ntmps112,ta,wH,wB,l1,l2];refine W.ul ?_;refine W.loopS (kt:=[1,3,19,20,21]) rfl (fun _:Nat=>Qif (.ptr 0 1 0) (.bool false) .nS (.int .i64 0) (.int .i64 0)) (fun _=>[[(1,.cells [.nS,.nS])]]) (fun _=>True) (fun i=>i) ?_ 0 trivial rfl rfl;rintro i hi;simp only[Qif];simp only[wA,↓Qc,simprocAttr];refine W.done ?_;simp only[wA,↓Qc,simprocAttr,ta,wH,wB,l1,l2];refine W.ul ?_;refine W.loop (fun(_:Nat) t H=>Yf [3,33,34,35] t 0=Qd4 (.bool false) .nS (.int .i64 0) (.int .i64 0)/\H=[[(1,.cells [.nS,.nS])]]) (fun i=>i) ?_ 0 ⟨rfl,rfl⟩ rfl;rintro i t H ⟨ht,rfl⟩;have hd:([[(1,.cells [.nS,.nS])]]:Heap).modify 0 (Jb fun s=>[7].contains s)=[[(1,.cells [.nS,.nS])]]:=rfl;refine⟨_,_,Jh (kt:=[3,33,34,35]) (ds:=[7]) rfl ?_ ?_,?_⟩
 . rw[ht];rfl
 . rw[hd];rfl
 rw[ht,hd];simp only[Qd4];simp only[wA,↓Qc,simprocAttr];refine W.done ?_;simp only[wA,↓Qc,simprocAttr];exact W.done (End.ret (v:= .int .i64 8) rfl rfl)
theorem Q5r(ys:List V)(v:V)(h:Qv5 ys=some v):FzN Tryz.prog Qg 112 ys v:=by
 unfold Qv5 at h;split at h
 case h_3=>cases h
 . cases h;obtain⟨r,H,e,rfl⟩:=Q7e;exact⟨_,_,e,rfl⟩
 . rename_i bv wv _;split at h
   case h_2=>cases h
   rename_i rv cs hb hw;obtain⟨cs,n⟩:=cs;cases h;obtain⟨fl,rfl,h1,h2,h3⟩:=Qka hb;obtain⟨w1,w2,w3,w4,w5⟩:=Ql5 hw;obtain⟨r,H,e,rfl⟩:=Zaq rv fl _ h1 h2 wv cs n w1 w2 (waA cs) (waD cs) w3 w4;exact⟨_,_,e,rfl⟩
end Go.Proofs.YtidniacddkalaaaGreatDoor
namespace Go.Proofs.YtidniacddkalaaaGreatDoor
open Go.AM Go.AM.BM
attribute [local irreducible] U W
def Qq6(a:Nat->Int)(dv:Nat->V):Nat->List V->List V
 |0,rv=>rv
 |i+1,rv=>(Qq6 a dv i rv).set (a i).toNat (dv i)
theorem Qpt(a:Nat->Int)(dv:Nat->V):∀(n:Nat) (rv:List V),Qq6 a dv (n+1) rv=Qq6 (fun j=>a (j+1)) (fun j=>dv (j+1)) n (rv.set (a 0).toNat (dv 0))
 |0,rv=>rfl
 |n+1,rv=>by
  show(Qq6 a dv (n+1) rv).set _ _=_;rw[Qpt a dv n rv];rfl
theorem Qne(a:Nat->Int)(dv:Nat->V):∀(n:Nat) (rv:List V),(Qq6 a dv n rv).length=rv.length
 |0,_=>rfl
 |n+1,rv=>by rw[Qq6,Zs5,Qne a dv n rv]
theorem Qxi(a:Nat->Int)(dv:Nat->V):∀(n:Nat) (rv:List V) (x:V),x∈Qq6 a dv n rv->x∈rv\/∃j,j<n/\x=dv j
 |0,_,x,h=> .inl h
 |n+1,rv,x,h=>by
  rcases List.mem_or_eq_of_mem_set h with h|rfl
  . rcases Qxi a dv n rv x h with h|⟨j,hj,e⟩
    . exact .inl h
    . exact .inr ⟨j,by omega,e⟩
  . exact .inr ⟨n,by omega,rfl⟩
def waV(cs:List V)(j:Nat):V:=cs.getD (2*j+1) .bad
theorem Qgd:∀(n:Nat) (cs rv:List V),Qej cs=true->cs.length=n*2->Qgj cs rv=Qq6 (waA cs) (waV cs) n rv
 |0,cs,rv,_,h=>by
  have:cs=[]:=List.length_eq_zero_iff.1 (by omega);subst this;rfl
 |n+1,[],rv,_,h=>by simp at h
 |n+1,[x],rv,_,h=>by simp at h;omega
 |n+1,x::v::r,rv,h,hl=>by
  unfold Qej at h;split at h
  . rename_i e;cases e
  . rename_i a v' r' e;cases e;simp only[Zr1] at h;have ih:=Qgd n r (rv.set a.toNat v) h.2 (by simp only[Zrs] at hl;omega);show Qgj r (rv.set a.toNat v)=_;rw[ih,Qpt];have e1:(fun j=>waA (.int .i64 a::v::r) (j+1))=waA r:=by
     funext j;simp only[waA];rw[show 2*(j+1)=2*j+1+1 by omega,List.getD_cons_succ,List.getD_cons_succ]
    have e2:(fun j=>waV (.int .i64 a::v::r) (j+1))=waV r:=by funext j;simp only[waV];rw[show 2*(j+1)+1=2*j+1+1+1 by omega,List.getD_cons_succ,List.getD_cons_succ]
    rw[e1,e2];rfl
  . cases h
theorem Qsc:∀(L:List (Int×V)) (k:Int) (v:V),(k,v)∈Qbb L k v
 |[],k,v=>by simp[Qbb]
 |(k',v')::r,k,v=>by
  simp only[Qbb];split
  . simp
  . exact Zrz _ (Qsc r k v)
theorem Qsb:∀(L:List (Int×V)) (k:Int) (v:V) (x:Int×V),x.1≠k->x∈L->x∈Qbb L k v
 |(k',v')::r,k,v,x,hx,h=>by
  simp only[Qbb];rcases Zrx.1 h with rfl|h
  . rw[if_neg (fun e=>hx e.symm)];simp
  . split
    . exact Zrz _ h
    . exact Zrz _ (Qsb r k v x hx h)
def Qgn(L:List (Int×V))(rv:List V):List V:=Z7 L (List.range L.length) rv
theorem Qjs{L:List (Int×V)}(hn:(L.map Prod.fst).Nodup)(h0:∀x∈L,0<=x.1){x:Int×V}(hx:x∈L){rv:List V}(hl:x.1.toNat<rv.length):(Qgn L rv)[x.1.toNat]?=some x.2:=by obtain⟨b,hb⟩:=Zsn.1 hx;exact Qf2 L (fun b c k v w h1 h2=>Qpo hn b c k v w h1 h2) (fun b k v h=>h0 _ (Zt1 h)) (k:=x.1) (v:=x.2) hb _ rv (Zs8.2 (Zsm.1 hb).1) hl
theorem Qmz{L:List (Int×V)}{i:Nat}(h:∀x∈L,x.1.toNat≠i)(rv:List V):(Qgn L rv)[i]?=rv[i]?:=
 Qb5 L i _ rv fun b _ k v hb=>h _ (Zt1 hb)
theorem Q1d{L:List (Int×V)}(hn:(L.map Prod.fst).Nodup)(h0:∀x∈L,0<=x.1/\x.1<256)(k:Int)(v:V)(k0:0<=k)(k1:k<256)(rv:List V)(hl:rv.length=256):Qgn (Qbb L k v) rv=(Qgn L rv).set k.toNat v:=by
 have hn2:=Qkm L k v hn;have h2:∀x∈Qbb L k v,0<=x.1:=fun x hx=>by
  rcases Qg7 _ _ _ _ hx with rfl|hx
  . exact k0
  . exact(h0 x hx).1
 have la:(Qgn L rv).length=256:=by rw[Qgn,B3,hl]
 apply Zs7;intro i;by_cases hi:i=k.toNat
 . subst hi;have:=Qjs hn2 h2 (Qsc L k v) (rv:=rv) (by show k.toNat<_;omega);rw[Zs6,if_pos rfl,if_pos (by omega)];exact this
 . rw[Zs6,if_neg (fun e=>hi e.symm)];by_cases hx:∃x∈L,x.1.toNat=i
   . obtain⟨x,hx,rfl⟩:=hx;have hk:x.1≠k:=fun e=>hi (by rw[e]);have b:=h0 x hx;rw[Qjs hn2 h2 (Qsb L k v x hk hx) (by omega),Qjs hn (fun x hx=>(h0 x hx).1) hx (by omega)]
   . have hm:∀x∈L,x.1.toNat≠i:=fun x hx' e=>hx ⟨x,hx',e⟩;rw[Qmz hm,Qmz];intro x hx';rcases Qg7 _ _ _ _ hx' with rfl|h
     . exact fun e=>hi e.symm
     . exact hm x h
theorem Qs8(a:Nat->Int)(dv:Nat->V)(rv:List V)(hl:rv.length=256)(n:Nat)(ha:∀j,j<n->0<=a j/\a j<256):∀i,i<=n->Qq6 a dv i rv=Qgn (Xg a dv i) rv
 |0,_=>rfl
 |i+1,hi=>by
  have q:=ha i (by omega);show(Qq6 a dv i rv).set _ _=Qgn (Qbb (Xg a dv i) (a i) (dv i)) rv;rw[Q1d (Qg9 a dv i) (fun x hx=>?_) (a i) (dv i) q.1 q.2 rv hl,Qs8 a dv rv hl n ha i (by omega)];obtain⟨j,hj,e⟩:=Qju a dv i x hx;rw[e];exact ha j (by omega)
theorem Zcf(l:List V)(h:∀x∈l,∃c f,x= .iS c 256 f/\Ju c)(hl:l.length=256):
 (∀i,i<256->∃f,l[i]?=some (.iS (Qrk (l.getD i .bad)) 256 f))/\∀i,i<256->Ju (Qrk (l.getD i .bad)):=by
 have key:∀i,i<256->∃c g,l[i]?=some (.iS c 256 g)/\l.getD i .bad= .iS c 256 g/\Ju c:=fun i hi=>by
  have hl:i<l.length:=by omega
  obtain⟨c,g,e,hr⟩:=h l[i] (Ztp hl);have e1:l[i]?=some (.iS c 256 g):=by rw[Zra hl,e]
  exact⟨c,g,e1,by simp[List.getD,e1],hr⟩
 refine⟨fun i hi=>?_,fun i hi=>?_⟩
 . obtain⟨c,g,e1,e2,_⟩:=key i hi;exact⟨g,by rw[e1,e2];rfl⟩
 . obtain⟨c,g,_,e2,hr⟩:=key i hi;rw[e2];exact hr
theorem Q2w{wv:V}{cs:List V}{n:Nat}(h:Qkj wv=some (cs,n)):Qej cs=true:=by
 cases wv with
 |nS=>cases h;rfl
 |iS xs m f=>
  simp only[Qkj] at h;split at h
  case isFalse=>cases h
  rename_i hc;cases h;simp only[Zr1] at hc;exact hc.2
 |_=>cases h
theorem Q99(ys:List V)(v:V)(h:Q31 138 ys=some v):Fz Tryz.prog Qg 137 ys (· =v):=by
 unfold Q31 at h;split at h
 case h_2=>cases h
 rename_i bv wv sv;split at h
 case isFalse=>cases h
 rename_i hfn;split at h
 case h_2=>cases h
 rename_i rv cs n hb hw;split at h
 case isFalse=>cases h
 rename_i hc;cases h;have hsr:∀p,sv.refs p=false:=fun p=>by
  unfold isFn at hfn;split at hfn
  . rfl
  . rfl
  . rfl
  . cases hfn
 have hso:sv= .func (.func 138) [] []\/n=0:=by
  rcases Bool.or_eq_true_iff.1 hc with h|h
  . left;unfold isAll at h;split at h
    . cases Zt7 h;rfl
    . cases h
  . exact .inr (Zt7 h)
 obtain⟨fl,rfl,h1,h2,h3⟩:=Qka hb;obtain⟨w1,w2,w3,w4,w5⟩:=Ql5 hw;have wok:=Q2w hw;have wv3:∀j,j<n->∃c f,waV cs j= .iS c 256 f/\Ju c/\cs[2*j+1]?=some (waV cs j):=fun j hj=>by
  obtain⟨_,f,e⟩:=w3 j hj;have e2:waV cs j= .iS (waD cs j) 256 f:=by simp[waV,List.getD,e]
  exact⟨_,f,e2,w5 j hj,by rw[e2];exact e⟩
 have eA:Qgj cs rv=Z7 (Xg (waA cs) (waV cs) n) (List.range (Xg (waA cs) (waV cs) n).length) rv:=by rw[Qgd n cs rv wok w1.1,Qs8 (waA cs) (waV cs) rv h1 n w4 n (Zrf n)];rfl
 have hl2:(Qgj cs rv).length=256:=by rw[Qgd n cs rv wok w1.1,Qne,h1]
 have hm:∀x∈Qgj cs rv,∃c f,x= .iS c 256 f/\Ju c:=fun x hx=>by
  rw[Qgd n cs rv wok w1.1] at hx;rcases Qxi _ _ n rv x hx with hx|⟨j,hj,rfl⟩
  . obtain⟨i,hi⟩:=Zsn.1 hx;have hi2:i<256:=by rw[<-h1];exact(Zsm.1 hi).1
    obtain⟨f,e⟩:=h2 i hi2;have:=h3 i hi2;rw[hi] at e;cases e;exact⟨_,f,rfl,this⟩
  . obtain⟨c,f,e,hc,_⟩:=wv3 j hj;exact⟨c,f,e,hc⟩
 obtain⟨r1,r2⟩:=Zcf _ hm hl2;have e3:=Qqh (Qgj cs rv) [] 0 hl2 rfl (fun j hj=>by omega);rw[<-e3];exact Q4i rv fl _ h1 h2 h3 wv cs n w1 w2 (waA cs) (waV cs) (fun j hj=>⟨(w3 j hj).1,by obtain⟨_,_,_,_,e⟩:=wv3 j hj;exact e⟩) w4 (fun j hj=>by obtain⟨c,f,e,hc,_⟩:=wv3 j hj;exact⟨c,f,e,hc⟩) (fun i=>Qrk ((Qgj cs rv).getD i .bad)) (fun i hi=>by rw[<-eA];exact r1 i hi) r2 sv hso hsr
end Go.Proofs.YtidniacddkalaaaGreatDoor
namespace Go.AM
open Go.RowKit Go.Lib
section
variable {P : Program}
theorem Qlk(w:World){o:Oper}{a:Act}{K:Act->World->Prop}{Q:Exit->Act->World->Prop}(d s:Operand)(t t' :TypeId)
 (ho:o.op= .call {callee:= .builtin .copy,args:= #[d,s],argTypes:= #[t,t']})(v u:Value)(hd:a.eval d=v)(hs:a.eval s=u){v' :Value}{w' :World}
 (hr:(Builtin.copy_ #[t,t'] o.type #[v,u]).run P w= .ok v' w')(h:K (a.put o.dst v') w'):o.wp P a w K Q:=by
 unfold Oper.wp execOp;simp only[ho,resolve,invoke,builtin,Zuk,Zul,Zuj,List.map_toArray,Zrw,Zsc,hd,hs,hr];exact h
theorem Qe9(w:World){ops:Array Oper}{rest:List Oper}{o:Oper}{a:Act}{Q:Exit->Act->World->Prop}(hgd:o.guard=none)(d s:Operand)(t t' :TypeId)
 (ho:o.op= .call {callee:= .builtin .copy,args:= #[d,s],argTypes:= #[t,t']})(v u:Value)(hd:a.eval d=v)(hs:a.eval s=u){v' :Value}{w' :World}
 (hr:(Builtin.copy_ #[t,t'] o.type #[v,u]).run P w= .ok v' w')(h:wpList P ops Q rest (a.put o.dst v') w'):wpList P ops Q (o::rest) a w:=
 wpList_plain hgd fun _ hK=>Qlk w d s t t' ho v u hd hs hr (hK _ _ h)
theorem Qha{ops:Array Oper}{o:Oper}{a:Act}{w:World}{K:Act->World->Prop}{Q:Exit->Act->World->Prop}{E:Prop}
 (hg:o.guard=none)(d x:Operand)(dT sT:TypeId)(hop:o.op=Op.call {callee:=Callee.builtin Builtin.copy,args:= #[d,x],argTypes:= #[dT,sT]})
 (v u:Value)(hd:a.eval d=v)(hx:a.eval x=u){v' :Value}{w' :World}(hr:(Builtin.copy_ #[dT,sT] o.type #[v,u]).run P w= .ok v' w')(hK:K (a.put o.dst v') w'):
 if Region.wanted o (yielded ops a.tmps)=true then Oper.wp P o a w K Q else E:=by
 have hw:Region.wanted o (yielded ops a.tmps)=true:=by simp[Region.wanted,hg]
 rw[if_pos hw];exact Qlk w d x dT sT hop v u hd hx hr hK
end
end Go.AM
namespace Go.Proofs.YtidniacddkalaaaGreatDoor
open Go.AM Go.AM.BM Go.RowKit Go.Lib
theorem uS:Tryz.prog.underlying 34=some (.slice 59):=by kernel_rfl
theorem uI:Tryz.prog.underlying 3=some (.int .i64):=by kernel_rfl
theorem uB:Tryz.prog.underlying 4=some .bool:=by kernel_rfl
theorem zE:sz Tryz.prog 59=some 12:=by kernel_rfl
theorem byEd:byt Tryz.prog 59=some 96:=by kernel_rfl
theorem zcE:(zer Tryz.prog 59).map (fun z=>z.cells.size)=some 12:=by kernel_rfl
set_option maxHeartbeats 4000000 in
theorem Zbh
 (w:World)(b n c i m vb voff vc:Nat)(hm:0<m)(hi:i<n)(hroom:n+m<=c)(hn63:n+m<=35184372088832)(hov:∀lb cb,(callFunc 173 #[.slice (some ⟨vb,voff,none⟩) m vc,.slice (some ⟨b,(i+m)*12,none⟩) lb cb]).run Tryz.prog w= .ok (.value (.bool false)) w)
 (w1 w2:World)(hcp1:∀ty dc sc,(Builtin.copy_ #[34,34] ty #[.slice (some ⟨b,(i+m)*12,none⟩) (n+m-(i+m)) dc,.slice (some ⟨b,i*12,none⟩) (n+m-i) sc]).run Tryz.prog w.drew= .ok (goInt ((n-i:Nat):Int)) w1)
 (hcp2:∀ty dc,(Builtin.copy_ #[34,34] ty #[.slice (some ⟨b,i*12,none⟩) (n+m-i) dc,.slice (some ⟨vb,voff,none⟩) m vc]).run Tryz.prog w1= .ok (goInt m) w2):
 Calls Tryz.prog 128 #[.slice (some ⟨b,0,none⟩) n c,.int .i64 i,.slice (some ⟨vb,voff,none⟩) m vc] w fun e w' =>e= .returned (.slice (some ⟨b,0,none⟩) (n+m) c)/\w' =w2:=by
 have mixed:=Tryz.checked.mixed;have r34:=Qh (P:=Tryz.prog) uS;have r3:=Qh (P:=Tryz.prog) uI;have r4:=Qh (P:=Tryz.prog) uB;have z129:∀w,(Go.sizeOf 59).run Tryz.prog w= .ok 12 w:=Jw zE;have hz1:¬((m:Int)=0):=by omega
 have hz2:¬((i:Int)=(n:Int)):=by omega
 have hz3:¬((c:Int)<(n:Int)+(m:Int)):=by omega
 have hw0:IntKind.i64.wrap ((n:Int)+(m:Int))=(n:Int)+(m:Int):=by rw[IntKind.wrap_i64];omega
 have hw1:IntKind.i64.wrap ((i:Int)+(m:Int))=(i:Int)+(m:Int):=by rw[IntKind.wrap_i64];omega
 have hb0:(0:Int)<=(n:Int)+(m:Int):=by omega
 have hb1:(0:Int)<=(i:Int)+(m:Int):=by omega
 have hin:i<=n:=by omega
 have htn0:((n:Int)+(m:Int)).toNat=n+m:=by omega
 have htn:((i:Int)+(m:Int)).toNat=i+m:=by omega
 have hb2:¬(c=i+m):=by omega
 have hb3:(i:Int)<=(n:Int)+(m:Int):=by omega
 have hb4:¬(c=i):=by omega
 have hb5:(n:Int)+(m:Int)<=(c:Int):=by omega
 go_enter Tryz.func128,Tryz.ntmps128
 go_wp2_with (simp only[hov])
 go_region_law_o (refine Qha rfl _ _ 34 34 rfl _ _ (by simp[Act.eval,Act.put]) (by simp[Act.eval,Act.put]) (hcp1 _ _ _) ?_)
 go_wp2_with (at_builtin;refine Qe9 _ rfl _ _ 34 34 rfl _ _ rfl rfl (hcp2 _ _) ?_)
 go_ret
 exact⟨rfl,rfl⟩
set_option maxHeartbeats 4000000 in
theorem Q3e
 (w:World)(base:Option Addr)(n c m:Nat)(v:Value)(hm:0<m)(hv:∀w,(Builtin.lenOf v).run Tryz.prog w= .ok m w)(hsl:∃a k,v= .slice a m k)(hn63:n+m<=35184372088832)(hnc:n<=c)(hbase:base=none->c=0)(v1:Value)
 (w1:World)(hap:∀ty,(Builtin.append_ #[34,34] ty #[.slice base n c,v]).run Tryz.prog w= .ok v1 w1):
 Calls Tryz.prog 128 #[.slice base n c,.int .i64 n,v] w fun e w' =>e= .returned v1/\w' =w1:=by
 have mixed:=Tryz.checked.mixed;have r34:=Qh (P:=Tryz.prog) uS;have r3:=Qh (P:=Tryz.prog) uI;have r4:=Qh (P:=Tryz.prog) uB;have z129:∀w,(Go.sizeOf 59).run Tryz.prog w= .ok 12 w:=Jw zE;obtain⟨va,vk,rfl⟩:=hsl;have hz1:¬((m:Int)=0):=by omega
 have hin:n<=c:=hnc;have hnc' :(n:Int)<=(c:Int):=by omega
 go_enter Tryz.func128,Tryz.ntmps128
 cases base with
 |none=>
  have h0:=hbase rfl;have hn0:n=0:=by omega
  subst h0;subst hn0
  go_wp2_with (at_builtin;refine Lib.wpList_append_run _ rfl _ _ _ _ rfl _ _ rfl rfl _ _ (hap _) ?_)
  go_ret
  exact⟨rfl,rfl⟩
 |some a=>
  go_wp2_with (at_builtin;refine Lib.wpList_append_run _ rfl _ _ _ _ rfl _ _ rfl rfl _ _ (hap _) ?_)
  all_goals (go_ret;exact⟨rfl,rfl⟩)
set_option maxHeartbeats 4000000 in
theorem Q9k
 (w:World)(b N n c i m G vb voff vc:Nat)(hm:0<m)(hi:i<n)(hnc:n<=c)(hroom:c<n+m)(hG:n+m<=G)(hn63:n+m<=35184372088832)
 (w1 w2 w3:World)(hap:∀ty,(Builtin.append_ #[34,3] ty #[.slice (some ⟨b,0,none⟩) i c,.int .i64 ((n:Int)+(m:Int)-(i:Int))]).run Tryz.prog w= .ok (.slice (some ⟨N,0,none⟩) (n+m) G) w1)
 (hcp1:∀ty dc,(Builtin.copy_ #[34,34] ty #[.slice (some ⟨N,i*12,none⟩) (n+m-i) dc,.slice (some ⟨vb,voff,none⟩) m vc]).run Tryz.prog w1= .ok (goInt m) w2)
 (hcp2:∀ty dc sc,(Builtin.copy_ #[34,34] ty #[.slice (some ⟨N,(i+m)*12,none⟩) (n+m-(i+m)) dc,.slice (some ⟨b,i*12,none⟩) (n-i) sc]).run Tryz.prog w2.drew= .ok (goInt ((n-i:Nat):Int)) w3):
 Calls Tryz.prog 128 #[.slice (some ⟨b,0,none⟩) n c,.int .i64 i,.slice (some ⟨vb,voff,none⟩) m vc] w fun e w' =>e= .returned (.slice (some ⟨N,0,none⟩) (n+m) G)/\w' =w3:=by
 have mixed:=Tryz.checked.mixed;have r34:=Qh (P:=Tryz.prog) uS;have r3:=Qh (P:=Tryz.prog) uI;have r4:=Qh (P:=Tryz.prog) uB;have z129:∀w,(Go.sizeOf 59).run Tryz.prog w= .ok 12 w:=Jw zE;have hz1:¬((m:Int)=0):=by omega
 have hz2:¬((i:Int)=(n:Int)):=by omega
 have hz3:(c:Int)<(n:Int)+(m:Int):=by omega
 have hw0:IntKind.i64.wrap ((n:Int)+(m:Int))=(n:Int)+(m:Int):=by rw[IntKind.wrap_i64];omega
 have hw1:IntKind.i64.wrap ((i:Int)+(m:Int))=(i:Int)+(m:Int):=by rw[IntKind.wrap_i64];omega
 have hw2:IntKind.i64.wrap ((n:Int)+(m:Int)-(i:Int))=(n:Int)+(m:Int)-(i:Int):=by rw[IntKind.wrap_i64];omega
 have hb0:(0:Int)<=(n:Int)+(m:Int):=by omega
 have hb1:(0:Int)<=(i:Int)+(m:Int):=by omega
 have hin:i<=n:=by omega
 have hic:i<=c:=by omega
 have htn0:((n:Int)+(m:Int)).toNat=n+m:=by omega
 have htn:((i:Int)+(m:Int)).toNat=i+m:=by omega
 have hGi:¬(G=i):=by omega
 have hGim:¬(G=i+m):=by omega
 have hci:¬(c=i):=by omega
 have hb3:(i:Int)<=(n:Int):=by omega
 have hb5:(i:Int)+(m:Int)<=(n:Int)+(m:Int):=by omega
 have hb6:(i:Int)<=(n:Int)+(m:Int):=by omega
 have hb7:(i:Int)<=(c:Int):=by omega
 have hb8:(n:Int)<=(c:Int):=by omega
 go_enter Tryz.func128,Tryz.ntmps128
 go_wp2_with (first
  |(at_builtin;refine Lib.wpList_append_run _ rfl _ _ _ _ rfl _ _ rfl rfl _ _ (hap _) ?_)
  |(at_builtin;refine Qe9 _ rfl _ _ 34 34 rfl _ _ rfl rfl (hcp1 _ _) ?_))
 go_region_law_o (refine Qha rfl _ _ 34 34 rfl _ _ (by simp[Act.eval,Act.put]) (by simp[Act.eval,Act.put]) (hcp2 _ _ _) ?_)
 go_wp2
 go_ret
 exact⟨rfl,rfl⟩
theorem Qn6{w:World}{b2 o2 c2:Nat}{cur2:Array Value}{T2:TypeId}{us rest2:List Value}(hb2:w.heap[b2]?=some (.cells cur2 T2 (0,0)))(hc2:cur2.toList=us++rest2)(hol:o2+12<=us.length)(w' :World)(hw:w'.heap[b2]?=w.heap[b2]?):
 (Builtin.firstCells 12 1 (.slice (some ⟨b2,o2,none⟩) 1 c2)).run Tryz.prog w' = .ok ⟨(us.drop o2).take 12⟩ w' :=by
 have h1:=(Qfc hw (Q3p hb2 hc2)).take o2 12;rw[Zrm] at h1;have:=Zs (P:=Tryz.prog) (esz:=12) (k:=1) (n:=1) (cap:=c2) h1 (by simp only[Zsv,Zsw];omega) (Zrf _) 1;rw[this,Nat.one_mul,List.take_take,Nat.min_self]
theorem Q9d:Qup Tryz.prog 128 12 96 where
 body:=⟨_,_,Tryz.func128,rfl⟩
 num:=fun F hF=>by rw[Tryz.func128] at hF;cases hF;rfl
 room:=fun w b len c i cur T vs rest b2 o2 c2 cur2 T2 us rest2 hb hcur hvl hb2 hcur2 hol hbb hi hfit hcsz h1v h1u hroomy=>by
  have hle:=(Qaa hroomy).2;have hnew1:∀v∈(us.drop o2).take 12,v.oneCell' =true:=fun v hv=>h1u v (Ztf (Zsf hv));have hnl:((us.drop o2).take 12).length=12:=by simp only[Zsv,Zsw];omega
  have hcs:cur.size=vs.length+rest.length:=by have:=congrArg List.length hcur;simpa using this
  rcases Zrc i len with hlt|hge
  . have hov:∀lb cb,(callFunc 173 #[.slice (some ⟨b2,o2,none⟩) 1 c2,.slice (some ⟨b,(i+1)*12,none⟩) lb cb]).run Tryz.prog w= .ok (.value (.bool false)) w:=fun lb cb=>by
     rw[run_callFunc_extern Tryz.func173 (by kernel_rfl) (by kernel_rfl) (by kernel_rfl) (e:=Extern.SlicesOverlaps.overlaps Tryz.f173.params Tryz.f173.resultTypes) (by kernel_rfl)];have:=Lib.run_overlaps_apart (P:=Tryz.prog) w 34 4 59 uS 12 (Jw zE) ⟨b2,o2,none⟩ ⟨b,(i+1)*12,none⟩ 1 c2 lb cb (fun e=>hbb e.symm) T2 T cur2.size cur.size
      (by simp[World.shape?,hb2]) (by simp[World.shape?,hb]) (by omega) (by simp[World.frozen?,hb2]) (by simp[World.frozen?,hb2])
     change((Extern.SlicesOverlaps.overlaps #[34,34] #[4] _).run _ _).andThen _=_;rw[this];rfl
    have hLv:=Q3p hb hcur;have htl:(vs.drop (i*12)).length=(len-i)*12:=by rw[Zsw,hvl,Nat.sub_mul]
    have hsrc1:∀sc,(Builtin.firstCells 12 (len-i) (.slice (some ⟨b,i*12,none⟩) (len+1-i) sc)).run Tryz.prog w.drew= .ok ⟨vs.drop (i*12)⟩ w.drew:=fun sc=>by have h1:=(Qfc (w' :=w.drew) rfl hLv).take (i*12) ((len-i)*12);rw[Zrm,<-htl,Ztv] at h1;have:=Zs (P:=Tryz.prog) (esz:=12) (k:=len-i) (n:=len-i) (cap:=sc) h1 htl (Zrf _) (len+1-i);rw[this,<-htl,Ztv]
    have hcp1:∀ty dc sc,(Builtin.copy_ #[34,34] ty #[.slice (some ⟨b,(i+1)*12,none⟩) (len+1-(i+1)) dc,.slice (some ⟨b,i*12,none⟩) (len+1-i) sc]).run Tryz.prog w.drew= .ok (goInt ((len-i:Nat):Int)) (w.drew.setRow b ⟨splice cur.toList ((i+1)*12) (vs.drop (i*12))⟩):=fun ty dc sc=>
     Qio (t:=34) (ts:= #[34,34]) rfl uS zE (w:=w.drew) hb (fun _=>rfl) (by simp only[Nat.min_def];split<;>omega) (hsrc1 sc) (by rw[htl];omega) (fun v hv=>h1v v (Ztf hv))
    have hb' :(w.drew.setRow b ⟨splice cur.toList ((i+1)*12) (vs.drop (i*12))⟩).heap[b]?=some (.cells ⟨splice cur.toList ((i+1)*12) (vs.drop (i*12))⟩ T (0,0)):=setRow_heap w.drew b cur _ T (0,0) hb;have hsl:(splice cur.toList ((i+1)*12) (vs.drop (i*12))).length=cur.size:=by rw[Y1 _ _ _ (by rw[htl,Zsq];omega),Zsq]
    have hcp2:∀ty dc,(Builtin.copy_ #[34,34] ty #[.slice (some ⟨b,i*12,none⟩) (len+1-i) dc,.slice (some ⟨b2,o2,none⟩) 1 c2]).run Tryz.prog (w.drew.setRow b ⟨splice cur.toList ((i+1)*12) (vs.drop (i*12))⟩)=
     .ok (goInt (1:Nat)) ((w.drew.setRow b ⟨splice cur.toList ((i+1)*12) (vs.drop (i*12))⟩).setRow b ⟨splice (splice cur.toList ((i+1)*12) (vs.drop (i*12))) (i*12) ((us.drop o2).take 12)⟩):=fun ty dc=>
     Qio (t:=34) (ts:= #[34,34]) rfl uS zE hb' (fun _=>rfl) (by simp only[Nat.min_def];split<;>omega)
      (Qn6 hb2 hcur2 hol _ (by rw[setRow_other _ _ _ _ (fun e=>hbb e.symm)];rfl)) (by rw[hnl];show i*12+12<=(splice cur.toList ((i+1)*12) (vs.drop (i*12))).length;rw[hsl];omega) hnew1
    refine(Zbh w b len c i 1 b2 o2 c2 (by omega) hlt hfit hle hov _ _ hcp1 hcp2).mono ?_;rintro e w' ⟨rfl,rfl⟩;refine⟨rfl,w.drawn+1,?_⟩;rw[setRow_setRow,hcur,show(i+1)*12=i*12+12 by omega,Qrh vs rest _ (i*12) 12 (by omega) hnl (by omega)];rfl
  . have hie:i=len:=by omega
    subst hie;have hap:∀ty,(Builtin.append_ #[34,34] ty #[.slice (some ⟨b,0,none⟩) i c,.slice (some ⟨b2,o2,none⟩) 1 c2]).run Tryz.prog w= .ok (.slice (some ⟨b,0,none⟩) (i+1) c) (w.setRow b ⟨splice cur.toList (0+i*12) ((us.drop o2).take 12)⟩):=fun ty=>
     AM.run_append_room (t:=34) (t2:=34) (ts:= #[34,34]) rfl rfl uS zE byEd (.other _ 1 _ _ uS (fun k e=>by cases e) (fun _=>rfl) (fun w' hw=>Qn6 hb2 hcur2 hol w' (by rw[hw]))) hfit hb (by rw[hnl];omega) hnew1
    refine(Q3e w (some ⟨b,0,none⟩) i c 1 _ (by omega) (fun _=>rfl) ⟨_,_,rfl⟩ hle (by omega) (fun h=>by cases h) _ _ hap).mono ?_;rintro e w' ⟨rfl,rfl⟩;refine⟨rfl,w.drawn,?_⟩;have e1:splice cur.toList (0+i*12) ((us.drop o2).take 12)=(vs.take (i*12)++(us.drop o2).take 12++vs.drop (i*12))++rest.drop 12:=by have h2:vs.take (i*12)=vs:=Ztz (by omega);have h3:vs.drop (i*12)=[]:=List.drop_of_length_le (by omega);rw[h2,h3,hcur,Zrm,Qvx vs rest _ _ (by omega),hnl,Zsp]
    rw[e1];rfl
 grow:=fun w base len c i vs b2 o2 c2 cur2 T2 us rest2 hnil hlies hvl hb2 hcur2 hol hi hc h1v h1u hroomy=>by
  subst hc;have hle:=(Qaa hroomy).2;have hnew1:∀v∈(us.drop o2).take 12,v.oneCell' =true:=fun v hv=>h1u v (Ztf (Zsf hv));have hnl:((us.drop o2).take 12).length=12:=by simp only[Zsv,Zsw];omega
  obtain⟨zv,hzv,hzs⟩:∃zv,zer Tryz.prog 59=some zv/\zv.cells.size=12:=by
   have:=zcE;cases hq:zer Tryz.prog 59 with
   |none=>rw[hq] at this;cases this
   |some z=>rw[hq] at this;exact⟨z,rfl,by simpa using this⟩
  have hzl:∀k,(zerosN zv.cells.toList k).length=k*12:=fun k=>by rw[Jo,Zsq,hzs]
  have hb2s:b2<w.heap.size:=(Zrj.1 hb2).1;rcases Zrc i c with hlt|hge
  . cases base with
    |none=>exact absurd (hnil rfl).1 (by omega)
    |some a=>
     obtain⟨ab,ao,asp⟩:=a;obtain⟨h1,h2,hL⟩:=hlies _ rfl;simp only at h1 h2 hL;subst h1;subst h2;have habs:ab<w.heap.size:=block_lt_of_cell (hL 0 _ (Zra (by omega)));have hold:∀w' :World,w'.heap=w.heap->(Builtin.firstCells 12 i (.slice (some ⟨ab,0,none⟩) i c)).run Tryz.prog w' = .ok ⟨vs.take (i*12)⟩ w' :=fun w' hw=>by have h1:=(Qfc (w' :=w') (by rw[hw]) hL);exact Zs (P:=Tryz.prog) (esz:=12) (k:=i) (n:=c) (cap:=c) h1 hvl hi i
     have hk:((c:Int)+((1:Nat):Int)-(i:Int))=((c+1-i:Nat):Int):=by omega
     have htot:i+(c+1-i)=c+1:=by omega
     have hgrow:=fun ty=>AM.run_append_grow (P:=Tryz.prog) (w:=w) (ty:=ty) (ts:= #[34,3]) (t:=34) (t2:=3) rfl rfl uS zE byEd hzv (base:=some ⟨ab,0,none⟩) (sLen:=i) (sCap:=c) rfl
      (.zeros ((c+1-i:Nat):Int) .i64 zv uI (by omega) (by
        rw[Ztx];unfold Jl at hroomy⊢;have h96:(c+1-i)*96<=(c+1)*96:=Zsx _ (by omega);simp only[Zr1,decide_eq_true_eq] at hroomy⊢
        omega) hzv hzs) hold (by rw[Ztx];omega) (by rw[Ztx,htot];exact hroomy)
     obtain⟨G,hG,hap0⟩:=hgrow 0;simp only[Ztx,htot] at hG hap0;obtain⟨row0,hrow0⟩:∃row0,row0=vs.take (i*12)++zerosN zv.cells.toList (c+1-i)++zerosN zv.cells.toList (G-(c+1)):=⟨_,rfl⟩;rw[<-hrow0] at hap0;have hap:∀ty,(Builtin.append_ #[34,3] ty #[.slice (some ⟨ab,0,none⟩) i c,.int .i64 ((c:Int)+((1:Nat):Int)-(i:Int))]).run Tryz.prog w= .ok (.slice (some ⟨w.heap.size,0,none⟩) (c+1) G) {w with heap:=w.heap.push (.cells ⟨row0⟩ 59),drawn:=w.drawn+1}:=fun ty=>by rw[hk];exact hap0
     obtain⟨w1,hw1⟩:∃w1:World,w1={w with heap:=w.heap.push (.cells ⟨row0⟩ 59),drawn:=w.drawn+1}:=⟨_,rfl⟩;rw[<-hw1] at hap;have hN:w1.heap[w.heap.size]?=some (.cells ⟨row0⟩ 59 (0,0)):=by rw[hw1];simp
     have hO:∀k,k<w.heap.size->w1.heap[k]?=w.heap[k]?:=fun k hk=>by rw[hw1];simp only[Array.getElem?_push,if_neg (show¬k=w.heap.size by omega)]
     have hr0l:row0.length=G*12:=by rw[hrow0];simp only[Zsi,hzl,Zsv];omega
     have htl:(vs.drop (i*12)).length=(c-i)*12:=by rw[Zsw,hvl,Nat.sub_mul]
     have hcp1:∀ty dc,(Builtin.copy_ #[34,34] ty #[.slice (some ⟨w.heap.size,i*12,none⟩) (c+1-i) dc,.slice (some ⟨b2,o2,none⟩) 1 c2]).run Tryz.prog w1= .ok (goInt (1:Nat)) (w1.setRow w.heap.size ⟨splice row0 (i*12) ((us.drop o2).take 12)⟩):=fun ty dc=>
      Qio (t:=34) (ts:= #[34,34]) rfl uS zE hN (fun _=>rfl) (by simp only[Nat.min_def];split<;>omega) (Qn6 hb2 hcur2 hol _ (hO _ hb2s)) (by rw[hnl];show i*12+12<=row0.length;rw[hr0l];omega) hnew1
     obtain⟨w2,hw2⟩:∃w2:World,w2=w1.setRow w.heap.size ⟨splice row0 (i*12) ((us.drop o2).take 12)⟩:=⟨_,rfl⟩;rw[<-hw2] at hcp1;have hs1:(splice row0 (i*12) ((us.drop o2).take 12)).length=G*12:=by rw[Y1 _ _ _ (by rw[hnl,hr0l];omega),hr0l]
     have hN2:w2.drew.heap[w.heap.size]?=some (.cells ⟨splice row0 (i*12) ((us.drop o2).take 12)⟩ 59 (0,0)):=by rw[hw2];exact setRow_heap w1 w.heap.size _ _ _ (0,0) hN
     have hsrc2:∀sc,(Builtin.firstCells 12 (c-i) (.slice (some ⟨ab,i*12,none⟩) (c-i) sc)).run Tryz.prog w2.drew= .ok ⟨vs.drop (i*12)⟩ w2.drew:=fun sc=>by
      have hh:w2.drew.heap[ab]?=w.heap[ab]?:=by rw[hw2];change(w1.setRow w.heap.size _).heap[ab]?=_;rw[setRow_other _ _ _ _ (by omega),hO _ habs]
      have h1:=(Qfc hh hL).take (i*12) ((c-i)*12);rw[Zrm,<-htl,Ztv] at h1;have:=Zs (P:=Tryz.prog) (esz:=12) (k:=c-i) (n:=c-i) (cap:=sc) h1 htl (Zrf _) (c-i);rw[this,<-htl,Ztv]
     have hcp2:∀ty dc sc,(Builtin.copy_ #[34,34] ty #[.slice (some ⟨w.heap.size,(i+1)*12,none⟩) (c+1-(i+1)) dc,.slice (some ⟨ab,i*12,none⟩) (c-i) sc]).run Tryz.prog w2.drew=
      .ok (goInt ((c-i:Nat):Int)) (w2.drew.setRow w.heap.size ⟨splice (splice row0 (i*12) ((us.drop o2).take 12)) ((i+1)*12) (vs.drop (i*12))⟩):=fun ty dc sc=>
      Qio (t:=34) (ts:= #[34,34]) rfl uS zE hN2 (fun _=>rfl) (by simp only[Nat.min_def];split<;>omega) (hsrc2 sc) (by rw[htl];show(i+1)*12+(c-i)*12<=(splice row0 (i*12) ((us.drop o2).take 12)).length;rw[hs1];omega) (fun v hv=>h1v v (Ztf hv))
     refine(Q9k w ab w.heap.size c c i 1 G b2 o2 c2 (by omega) hlt (Zrf _) (by omega) hG hle w1 w2 _ hap hcp1 hcp2).mono ?_;rintro e w' ⟨rfl,rfl⟩;refine⟨G,w.drawn+2,59,zerosN zv.cells.toList (G-(c+1)),hG,hzl _,rfl,?_⟩;have e1:splice (splice row0 (i*12) ((us.drop o2).take 12)) ((i+1)*12) (vs.drop (i*12))=(vs.take (i*12)++(us.drop o2).take 12++vs.drop (i*12))++zerosN zv.cells.toList (G-(c+1)):=by rw[hrow0,show(i+1)*12=i*12+12 by omega];exact Qq7 _ _ _ _ _ (i*12) 12 (by rw[Zsv];omega) hnl (by rw[hzl,htl];omega)
     rw[e1,hw2,hw1];change((({w with heap:=w.heap.push (.cells ⟨row0⟩ 59),drawn:=w.drawn+2}:World).setRow w.heap.size _).setRow w.heap.size _)=_;rw[setRow_setRow];exact Qy3 {w with drawn:=w.drawn+2} ⟨row0⟩ _ 59 w.heap
  . have hie:i=c:=by omega
    subst hie;have hold:∀w' :World,w'.heap=w.heap->(Builtin.firstCells 12 i (.slice base i i)).run Tryz.prog w' = .ok ⟨vs⟩ w' :=fun w' hw=>by
     cases base with
     |none=>
      obtain⟨h0,_⟩:=hnil rfl;subst h0;have:vs=[]:=Zst (by omega);subst this;simp[Builtin.firstCells]
     |some a=>
      obtain⟨ab,ao,asp⟩:=a;obtain⟨h1,h2,hL⟩:=hlies _ rfl;simp only at h1 h2 hL;subst h1;subst h2;have:=Zs (P:=Tryz.prog) (esz:=12) (k:=i) (n:=i) (cap:=i) (Qfc (w' :=w') (by rw[hw]) hL) hvl (Zrf _) i;rw[this,<-hvl,Ztv]
    have hgrow:=fun ty=>AM.run_append_grow (P:=Tryz.prog) (w:=w) (ty:=ty) (ts:= #[34,34]) (t:=34) (t2:=34) rfl rfl uS zE byEd hzv (base:=base) (sLen:=i) (sCap:=i) (m:=1) (x:= .slice (some ⟨b2,o2,none⟩) 1 c2) rfl
     (.other _ 1 _ _ uS (fun k e=>by cases e) (fun _=>rfl) (fun w' hw=>Qn6 hb2 hcur2 hol w' (by rw[hw]))) hold (by omega) hroomy
    obtain⟨G,hG,hap0⟩:=hgrow 0;refine(Q3e w base i i 1 _ (by omega) (fun _=>rfl) ⟨_,_,rfl⟩ hle (Zrf _) (fun h=>(hnil h).2) _ _ (fun ty=>hap0)).mono ?_;rintro e w' ⟨rfl,rfl⟩;refine⟨G,w.drawn+1,59,zerosN zv.cells.toList (G-(i+1)),hG,hzl _,rfl,?_⟩;have h2:vs.take (i*12)=vs:=Ztz (by omega);have h3:vs.drop (i*12)=[]:=List.drop_of_length_le (by omega);rw[h2,h3,Zsp]
end Go.Proofs.YtidniacddkalaaaGreatDoor
namespace Go.Proofs.YtidniacddkalaaaGreatDoor
open Go.AM Go.AM.BM
noncomputable def Qzc(K:FuncId->Option Qcj):BM.Pol where
 prim:=fun f=>match f with
  |125=>some (Qoi Q3t)
  |137=>some (Qoi (Q31 138))
  |112=>some (Qex Qv5)
  |103=>some (Qoi kNew)
  |168=>some (Qex kMax)
  |99=>some (Qex kSum)
  |120=>some (Qex kKey)
  |184=>some Qdi
  |141=>some Yl
  |200=>some Xa
  |249=>some Kq
  |_=>none
 fix:=fun f=>f==166
 fixA:=fun f=>match f with
  |238=>some 2
  |164=>some 2
  |_=>none
 prims:=fun f=>match K f with
  |some g=>some g
  |none=>(match f with
   |128=>some (Q1v 12 96)
   |_=>none)
theorem xMake:Kl Tryz.prog 184 (Extern.BytealgMakeNoZero.makeNoZero Tryz.f184.params Tryz.f184.resultTypes):=⟨Tryz.f184,Tryz.func184,by kernel_rfl,by kernel_rfl,by kernel_rfl,by kernel_rfl⟩
theorem xCmpS:Kl Tryz.prog 141 Extern.BytealgCompare.compare:=⟨Tryz.f141,Tryz.func141,by kernel_rfl,by kernel_rfl,by kernel_rfl,by kernel_rfl⟩
theorem xCount:Kl Tryz.prog 200 Extern.BytealgCount.count:=⟨Tryz.f200,Tryz.func200,by kernel_rfl,by kernel_rfl,by kernel_rfl,by kernel_rfl⟩
theorem xIndex:Kl Tryz.prog 249 Extern.BytealgIndexByte.indexByte:=⟨Tryz.f249,Tryz.func249,by kernel_rfl,by kernel_rfl,by kernel_rfl,by kernel_rfl⟩
theorem Qo6{K:FuncId->Option Qcj}{f:FuncId}{g:BM.Prim}(h:(Qzc K).prim f=some g):
 (f=125/\g=Qoi Q3t)\/(f=137/\g=Qoi (Q31 138))\/(f=112/\g=Qex Qv5)\/(f=103/\g=Qoi kNew)\/(f=168/\g=Qex kMax)\/(f=99/\g=Qex kSum)\/(f=120/\g=Qex kKey)\/(f=184/\g=Qdi)\/(f=141/\g=Yl)\/(f=200/\g=Xa)\/(f=249/\g=Kq):=by
 simp only[Qzc] at h;split at h<;>cases h<;>simp
theorem Qql{K:FuncId->Option Qcj}(hK:∀f g,K f=some g->Qhm Tryz.prog f g){f:FuncId}{g:Qcj}(h:(Qzc K).prims f=some g):Qhm Tryz.prog f g:=by
 simp only[Qzc] at h;split at h
 . cases h;exact hK _ _ (by assumption)
 . split at h
   . cases h;exact ins_ok Q9d
   . cases h
theorem okC{K:FuncId->Option Qcj}(hK:∀f g,K f=some g->Qhm Tryz.prog f g):BM.Okay Tryz.prog (Qzc K) where
 mixed:=Tryz.checked.mixed
 draws:=fun f F c hF hc=>by rw[Q6j];exact okD.draws f F c hF hc
 loops:=fun f F c hF hc=>by rw[Zbm];exact okD.loops f F c hF hc
 num:=okD.num
 prim:=fun f g hg B F H E fr dst args cargs v x S one h0 htab hr h=>by
  rcases Qo6 hg with⟨rfl,rfl⟩|⟨rfl,rfl⟩|⟨rfl,rfl⟩|⟨rfl,rfl⟩|⟨rfl,rfl⟩|⟨rfl,rfl⟩|⟨rfl,rfl⟩|⟨rfl,rfl⟩|⟨rfl,rfl⟩|⟨rfl,rfl⟩|⟨rfl,rfl⟩
  . exact Qjm okD Q8p B F H E fr dst args cargs v x S one h0 htab hr h
  . exact Qjm okD Q99 B F H E fr dst args cargs v x S one h0 htab hr h
  . exact Qd3 okD Q5r B F H E fr dst args cargs v x S one h0 htab hr h
  . exact Qjm okD Zck B F H E fr dst args cargs v x S one h0 htab hr h
  . exact Qd3 okD Ze9 B F H E fr dst args cargs v x S one h0 htab hr h
  . exact Qd3 okD Zdh B F H E fr dst args cargs v x S one h0 htab hr h
  . exact Qd3 okD Zcs B F H E fr dst args cargs v x S one h0 htab hr h
  . exact Qf8 one (AM.sound_make xMake (e:=5) (by kernel_rfl) S (by omega) hr h)
  . exact Qf8 one (AM.sound_compare xCmpS S hr h)
  . exact Qf8 one (AM.sound_count xCount S hr h)
  . exact Qf8 one (AM.sound_indexByte xIndex S hr h)
 loop:=fun f F c _ _=>Qzy (fun _=>rfl) c
 tame:={
  prim:=fun f g hg nm G G' args v w hle hn h=>by
   rcases Qo6 hg with⟨rfl,rfl⟩|⟨rfl,rfl⟩|⟨rfl,rfl⟩|⟨rfl,rfl⟩|⟨rfl,rfl⟩|⟨rfl,rfl⟩|⟨rfl,rfl⟩|⟨rfl,rfl⟩|⟨rfl,rfl⟩|⟨rfl,rfl⟩|⟨rfl,rfl⟩
   . exact Qlv _ nm G G' args v w hle h
   . exact Qlv _ nm G G' args v w hle h
   . exact Qgb _ nm G G' args v w hle h
   . exact Qlv _ nm G G' args v w hle h
   . exact Qgb _ nm G G' args v w hle h
   . exact Qgb _ nm G G' args v w hle h
   . exact Qgb _ nm G G' args v w hle h
   . exact Qq1 nm G G' args v w hle hn h
   . exact Qlt nm G G' args v w hle h
   . exact Qqu nm G G' args v w hle h
   . exact Qke nm G G' args v w hle h
  loop:=fun fn r g hg=>by cases hg
  prims:=fun f g hg=>(Qql hK hg).tame}
 prims:=fun f g hg=>(Qql hK hg).sound
theorem nlC(K:FuncId->Option Qcj):Qdv (Qzc K):=fun _ _=>rfl
end Go.Proofs.YtidniacddkalaaaGreatDoor
end
