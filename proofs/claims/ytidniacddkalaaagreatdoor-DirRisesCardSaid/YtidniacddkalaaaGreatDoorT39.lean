/- This file holds in one the texts DP, DQ, DR, F19, F20, F21; each says at its head what it proves. -/
import Derived.Test.YtidniacddkalaaaGreatDoorT23
import Derived.Test.YtidniacddkalaaaGreatDoorT25
import Derived.Test.YtidniacddkalaaaGreatDoorT33
import Derived.Test.YtidniacddkalaaaGreatDoorT34
import Derived.Test.YtidniacddkalaaaGreatDoorT35
import Derived.Test.YtidniacddkalaaaGreatDoorT37
import Derived.Test.YtidniacddkalaaaGreatDoorT38
set_option linter.unusedSimpArgs false
set_option linter.unusedVariables false
namespace Go.Proofs.YtidniacddkalaaaGreatDoor
section
set_option maxRecDepth 100000
open Go.AM Go.AM.BM
attribute [local irreducible] U W
def leB(n:Nat):Nat->List UInt8
 |0=>[]
 |i+1=>leB n i++[UInt8.ofNat (n/256^i)]
theorem Qdn(n:Nat):∀i,(leB n i).length=i
 |0=>rfl
 |i+1=>by simp[leB,Qdn n i]
def Qt7(n:Nat):Nat->V
 |0=> .nS
 |i+1=> .gS 0 31 (Qb (leB n (i+1))) (i+1) 1
def Qwd:Nat->AM.Heap
 |0=>[[]]
 |i+1=>[[(31,.grow (i+1))]]
def Qom(n k:Nat):V:=if !(decide (0<k)&&decide (k<=4))||decide (256^k<=n) then .tuple [.nS,.int .i64 2] else .tuple [.iS (Qb (leB n k)) k false,.int .i64 0]
theorem Qjp(g:Get)(m:Nat):∀l:List UInt8,Qt (frzN g (m+1)) (Qb l)=some (Qb l)
 |[]=>rfl
 |b::l=>by
  have:=Qjp g m l;simp only[Qb,Zrw] at this⊢;exact Qa rfl this
theorem put_cw(n k:Nat)(hn:n<=281474976710656)(hk:k<=4294967296):CW Tryz.prog Qg 77 [.int .i64 n,.int .i64 k] [] fun r H=>∃v0,r= .ret v0/\frzN (Qd H) depth v0=some (Qom n k)/\frz (Qd H) depth v0=some (Qom n k):=by
 refine Kb Tryz.func77 rfl ?_;obtain⟨m,rfl,hm⟩:=(Qqy k).op (by rfl) rfl;have hm' :∀s H,_:=fun s H=>hm 77 0 s H rfl;have c0:decide ((n:Int)<0)=false:=by simp
 have err:∀(T:List V),T.getD 4 .bad= .nS->T.getD 5 .bad= .int .i64 2->Qom n k= .tuple [.nS,.int .i64 2]->AM.End Tryz.prog Tryz.f77 0 (fun r H=>∃v0,r= .ret v0/\frzN (Qd H) depth v0=some (Qom n k)/\frz (Qd H) depth v0=some (Qom n k)) .ret T [[]]:=by intro T h1 h2 h3;refine End.ret (v:= .tuple [.nS,.int .i64 2]) ?_ ⟨_,rfl,by rw[h3];rfl,by rw[h3];rfl⟩;show(match Ks Tryz.prog T [[]] [.tmp 4,.tmp 5] with|some [v]=>some v|some vs=>some (V.tuple vs)|none=>none)=_;simp only[Ks,Jv,h1,h2]
 cases hs:(decide (0<k)&&decide (k<=4)) with
 |false=>
  rw[hs] at hm';simp only[wA,↓Qc,simprocAttr,Tryz.ntmps77,ta,wH,wB,hm'];refine W.done (err _ rfl rfl ?_);simp[Qom,hs]
 |true=>
  rw[hs] at hm';have hk4:0<k/\k<=4:=by simpa using hs
  have m8:(IntKind.i64).wrap (8*(k:Int))=((8*k:Nat):Int):=by rw[wrap_i64]<;>omega
  have sh:∀p q,Zp Tryz.prog .shl 3 p q (.int .i64 1) (.int .i64 ((8*k:Nat):Int))=some (.int .i64 ((256^k:Nat):Int)):=fun p q=>by
   obtain⟨h1,h2⟩:=hk4;have:k=1\/k=2\/k=3\/k=4:=by omega
   rcases this with rfl|rfl|rfl|rfl<;>rfl
  have cg:decide ((n:Int)>=((256^k:Nat):Int))=decide (256^k<=n):=by simp only[ge_iff_le,Int.ofNat_le]
  simp only[wA,↓Qc,simprocAttr,Tryz.ntmps77,ta,wH,wB,hm',c0,m8,sh,cg];refine W.ite (fun h=>?_) (fun h=>?_)
  . simp only[wA,↓Qc,simprocAttr];refine W.done (err _ rfl rfl ?_);simp only[decide_eq_true_eq] at h;simp[Qom,hs,h]
  . have hv:Qom n k= .tuple [.iS (Qb (leB n k)) k false,.int .i64 0]:=by
     simp only[Qom,hs,h];rfl
    rw[hv];simp only[wA,↓Qc,simprocAttr,ta,wH,wB];refine W.ul ?_;refine W.loopS (kt:=[0,1,6]) rfl (fun i:Nat=>Q8q (.int .i64 ((n/256^i:Nat):Int)) (.int .i64 k) (Qt7 n i)) Qwd (fun i=>i<=k) (fun i=>k-i) ?_ 0 (Zt2 _) (by simp only[Nat.pow_zero,Nat.div_one];rfl) rfl;intro i hi;simp only[Q8q];have len:∀g,Y4 Tryz.prog g 26 (Qt7 n i)=some (.int .i64 (i:Nat)):=fun g=>by
     cases i with
     |zero=>exact Qeo Tryz.underlying26
     |succ i=>exact Q4j Tryz.underlying26 g
    by_cases h2:i<k
    . have c1:decide ((i:Int)<k)=true:=by simp only[decide_eq_true_eq];omega
      generalize hN:n/256^i=N;have hNn:N<=n:=by rw[<-hN];exact Nat.div_le_self _ _
      have cv:∀g,convertV Tryz.prog g 3 5 (.int .i64 N)=some (.val (.int .u8 ((UInt8.ofNat N).toNat:Nat)) none):=fun g=>by
       simp only[convertV,Tryz.underlying3,Tryz.underlying5];have:(IntKind.u8).wrap (N:Int)=((UInt8.ofNat N).toNat:Int):=by rw[IntKind.wrap_u8,UInt8.toNat_ofNat'];omega
       simp only[this]
      have q:∀x y,Zp Tryz.prog .quo 3 x y (.int .i64 N) (.int .i64 256)=some (.int .i64 ((N/256:Nat):Int)):=fun x y=>by
       have e:(N:Int).tdiv 256=((N/256:Nat):Int):=by rw[Int.tdiv_eq_ediv_of_nonneg (by omega)];omega
       have w:(IntKind.i64).wrap ((N/256:Nat):Int)=((N/256:Nat):Int):=by rw[wrap_i64]<;>omega
       show some (V.int .i64 ((IntKind.i64).wrap ((N:Int).tdiv 256)))=_;rw[e,w]
      have ap:Qq Tryz.prog (Qg.mt 77) 0 (Qd (Qwd i)) (some 31) 26 26 (Qt7 n i) (.iS [.int .u8 ((UInt8.ofNat N).toNat:Nat)] 1 true)=some (.val (Qt7 n (i+1)) (some (0,31,.grow (i+1)))):=by
       have mt:Qg.mt 77 31=false:=rfl;have e2:Qb (leB n (i+1))=Qb (leB n i)++[.int .u8 ((UInt8.ofNat N).toNat:Nat)]:=by rw[leB,K8,hN];rfl
       cases i with
       |zero=>
        rw[Qt7,Qt7,Qbq Tryz.underlying26 sz5 Qcp zc5 rfl Tryz.underlying26 (m:=1) (cs:=[.int .u8 ((UInt8.ofNat N).toNat:Nat)]) rfl (by omega) (by decide),Xc mt rfl rfl,e2];rfl
       |succ i=>
        rw[Qt7,Qt7,Qa2 Tryz.underlying26 sz5 Qcp zc5 rfl Tryz.underlying26 (cs:=[.int .u8 ((UInt8.ofNat N).toNat:Nat)]) (m:=1) rfl (by omega) (Jj (by omega) (by omega)) rfl rfl rfl,e2]
      have hs2:List.modify (Qwd i) 0 (fun fr=>Kf fr 31 (.grow (i+1)))=Qwd (i+1):=by cases i<;>rfl
      have mt:∀s,s<2000000->Qg.mt 77 s=false:=fun s h=>Qch h rfl;generalize Qt7 n i=S at*;generalize Qwd i=K at*;simp only[wA,↓Qc,simprocAttr,ta,wH,wB,len,c1,cv,q,mt,Q2,ap,hs2,Tryz.underlying26];refine W.done ⟨i+1,?_,rfl,h2,by omega⟩;have:n/256^(i+1)=N/256:=by rw[Nat.pow_succ,<-Nat.div_div_eq_div_mul,hN]
      rw[this];rfl
    . have hik:i=k:=by omega
      subst hik;have c1:decide ((i:Int)<i)=false:=by simp
      simp only[wA,↓Qc,simprocAttr,ta,wH,wB,len,c1];refine W.done ?_;simp only[wA,↓Qc,simprocAttr,ta,wH,wB];obtain⟨j,rfl⟩:∃j,i=j+1:=⟨i-1,by omega⟩;refine W.done (End.ret (v:= .tuple [.gS 0 31 (Qb (leB n (j+1))) (j+1) 1,.int .i64 0]) rfl ⟨_,rfl,?_,?_⟩)<;>rw[K3 rfl]
      . have fl:Qt (frzN (Qd (Qwd (j+1))) 10) (Qb (leB n (j+1)))=some (Qb (leB n (j+1))):=Qjp _ _ _;have f1:frzN (Qd (Qwd (j+1))) 11 (.gS 0 31 (Qb (leB n (j+1))) (j+1) 1)=some (.iS (Qb (leB n (j+1))) (j+1) false):=by
         show(if j+1=j+1 then(Qt (frzN (Qd (Qwd (j+1))) 10) (Qb (leB n (j+1)))).map _ else none)=_;rw[fl,if_pos rfl];rfl
        show(Qt (frzN _ 11) [V.gS 0 31 (Qb (leB n (j+1))) (j+1) 1,.int .i64 0]).map _=_;rw[Qa f1 (Qa (y:= .int .i64 0) rfl rfl)];rfl
      . have f1:=Qwe (l:=leB n (j+1)) (f:=0) (s:=31) (n:=j+1) (e:=1) (Qd (Qwd (j+1))) 9;show(Qt (frz _ 11) [V.gS 0 31 (Qb (leB n (j+1))) (j+1) 1,.int .i64 0]).map _=_;rw[Qa f1 (Qa (y:= .int .i64 0) rfl rfl)];rfl
theorem Qxz(n:Nat):∀i,leB n (i+1)=UInt8.ofNat n::leB (n/256) i
 |0=>by simp[leB]
 |i+1=>by
  rw[leB,Qxz n i,leB];have:n/256^(i+1)=n/256/256^i:=by rw[Nat.pow_succ',Nat.div_div_eq_div_mul]
  rw[this];rfl
theorem Qqp:∀(k n:Nat),Qjk n k=Qb (leB n k)
 |0,n=>rfl
 |k+1,n=>by
  rw[Qxz,Qjk,Qqp k (Nat.div n 256)];have e:(UInt8.ofNat n).toNat=n%256:=by rw[UInt8.toNat_ofNat']
  show V.int .u8 (Int.ofNat (n%256))::Qb (leB (n/256) k)=V.int .u8 ((UInt8.ofNat n).toNat:Int)::Qb (leB (n/256) k);rw[e];rfl
theorem Q86(n:Nat)(hn:n<4294967296):Fz Tryz.prog Qg 77 [.int .i64 n,.int .i64 4] fun r=>r= .tuple [.iS (Qb (leB n 4)) 4 false,.int .i64 0]:=by
 obtain⟨r,H,h1,v0,rfl,_,h2⟩:=put_cw n 4 (by omega) (by decide);have e:Qom n 4= .tuple [.iS (Qb (leB n 4)) 4 false,.int .i64 0]:=by
  have:¬256^4<=n:=by omega
  simp[Qom,this]
 exact⟨v0,H,_,h1,h2,e⟩
theorem Q85{l:List UInt8}(hl:l.length<=1048576):wok (Xh l):=by have ok:=Qli (l:=Qba l (K7 l.length)) (j:=(l.length+1+K7 l.length)/8) (by rw[Qem];omega);exact Qma 8 ⟨ok.1,Qes ok.2.1 (by omega),ok.2.2.1,ok.2.2.2⟩
def wi(x:W4):Nat->Nat
 |0=>x.a
 |1=>x.b
 |2=>x.c
 |_=>x.d
theorem wi_lt{x:W4}(h:wok x):∀i,wi x i<4294967296
 |0=>h.1
 |1=>h.2.1
 |2=>h.2.2.1
 |_+3=>h.2.2.2
def Qdu(x:W4):Nat->List UInt8
 |0=>[]
 |i+1=>Qdu x i++leB (wi x i) 4
theorem Qd0(x:W4):∀i,(Qdu x i).length=4*i
 |0=>rfl
 |i+1=>by simp[Qdu,Qd0 x i,Qdn];omega
def Quo(x:W4):Nat->V
 |0=> .nS
 |i+1=> .gS 0 21 (Qb (Qdu x (i+1))) (4*(i+1)) 1
def keyH:Nat->AM.Heap
 |0=>[[]]
 |i+1=>[[(21,.grow (4*(i+1)))]]
theorem Zep{l:List UInt8}{f s n e:Nat}{g:Get}(h:g f s=some (.grow n))(m:Nat):frzN g (m+2) (.gS f s (Qb l) n e)=some (.iS (Qb l) n false):=by
 have fl:Qt (frzN g (m+1)) (Qb l)=some (Qb l):=Qjp _ _ _;have e1:frzN g (m+2) (.gS f s (Qb l) n e)=(match g f s with
  |some (.grow k)=>if k=n then(Qt (frzN g (m+1)) (Qb l)).map fun cs=> .iS cs n false else none
  |_=>none):=rfl
 rw[e1,h];simp only[if_true,fl,Zrb]
theorem Q8z(v:V)(l:List UInt8)(hv:Qf v l)(hl:l.length<=1048576):CW Tryz.prog Qg 120 [v] [] fun r H=>∃v0,r= .ret v0/\frzN (Qd H) depth v0=some (.iS (Qb (Qdu (Xh l) 4)) 16 false)/\frz (Qd H) depth v0=some (.iS (Qb (Qdu (Xh l) 4)) 16 false):=by
 refine Kb Tryz.func120 rfl ?_;obtain⟨m,rfl,hm⟩:=(Q34 v l hv hl).op (by rfl) (Qa (hv.frz _) rfl);have hm' :∀s H,_:=fun s H=>hm 120 0 s H rfl;have ok:=Q85 hl;generalize Xh l=z at*;simp only[wA,↓Qc,simprocAttr,Tryz.ntmps120,ta,wH,wB,hm'];refine W.ul ?_;refine W.loopS (kt:=[3,9,10]) rfl (fun i:Nat=>Q4w (Quo z i) (.agg (wc z)) (.int .i64 i)) keyH (fun i=>i<=4) (fun i=>4-i) ?_ 0 (Zt2 _) rfl rfl;intro i hi;simp only[Q4w];by_cases h:i<4
 . have c1:decide ((i:Int)<4)=true:=by simp;omega
   have ix:B1 Tryz.prog 201 (.agg (wc z)) (.int .i64 i)=some (.int .u32 (wi z i)):=by
    have:i=0\/i=1\/i=2\/i=3:=by omega
    rcases this with rfl|rfl|rfl|rfl<;>(simp only[B1,Tryz.underlying201,Qtd];rfl)
   have cv:∀g,convertV Tryz.prog g 27 3 (.int .u32 (wi z i))=some (.val (.int .i64 (wi z i)) none):=fun g=>by
    simp only[convertV,Tryz.underlying3,Tryz.underlying27];have:=wi_lt ok i;have:(IntKind.i64).wrap (wi z i:Int)=(wi z i:Int):=by rw[wrap_i64]<;>omega
    simp only[this]
   obtain⟨m2,rfl,hm2⟩:=(Q86 (wi z i) (wi_lt ok i)).op (by rfl) rfl;have hm2' :∀s H,_:=fun s H=>hm2 120 0 s H rfl;have w1:(IntKind.i64).wrap ((i:Int)+1)=((i+1:Nat):Int):=by rw[wrap_i64]<;>omega
   have mt:∀s,s<2000000->Qg.mt 120 s=false:=fun s h=>Qch h rfl;have ap:Qq Tryz.prog (Qg.mt 120) 0 (Qd (keyH i)) (some 21) 26 26 (Quo z i) (.iS (Qb (leB (wi z i) 4)) 4 false)=some (.val (Quo z (i+1)) (some (0,21,.grow (4*(i+1))))):=by
    have e2:Qb (Qdu z (i+1))=Qb (Qdu z i)++Qb (leB (wi z i) 4):=by rw[Qdu,K8]
    have sc:∀g,Ql g 1 (.iS (Qb (leB (wi z i) 4)) 4 false)=some (Qb (leB (wi z i) 4),4):=fun g=>by simp[Ql,Q8,Qdn]
    cases i with
    |zero=>
     rw[Quo,Quo,Qbq Tryz.underlying26 sz5 Qcp zc5 rfl Tryz.underlying26 (sc _) (by omega) (by decide),Xc (mt _ (by decide)) (Yc _) rfl,e2];rfl
    |succ i=>
     rw[Quo,Quo,Qa2 Tryz.underlying26 sz5 Qcp zc5 rfl Tryz.underlying26 (sc _) (by omega) (Jj (by omega) (by omega)) (Yc _) (Ja _) rfl,e2,show 4*(i+1)+4=4*(i+1+1) by omega]
   have hs2:List.modify (keyH i) 0 (fun fr=>Kf fr 21 (.grow (4*(i+1))))=keyH (i+1):=by cases i<;>rfl
   generalize Quo z i=S at*;generalize keyH i=K at*;simp only[wA,↓Qc,simprocAttr,ta,wH,wB,c1,ix,cv,hm2',mt,Q2,ap,hs2,w1,Tryz.underlying26];exact W.done ⟨i+1,rfl,rfl,h,by omega⟩
 . have hi4:i=4:=by omega
   subst hi4;have c1:decide (((4:Nat):Int)<4)=false:=rfl;simp only[wA,↓Qc,simprocAttr,ta,wH,wB,c1];refine W.done ?_;simp only[wA,↓Qc,simprocAttr,ta,wH,wB];refine W.done (End.ret (v:=Quo z 4) rfl ⟨_,rfl,?_,?_⟩)
   . rw[K3 rfl];exact Zep rfl 10
   . exact Qwe _ 10
theorem Zcs(ys:List V)(v:V)(h:kKey ys=some v):FzN Tryz.prog Qg 120 ys v:=by
 unfold kKey at h;split at h
 case h_2=>cases h
 rename_i x;split at h
 case h_2=>cases h
 rename_i c hc;cases h;obtain⟨l,rfl,hb,hl⟩:=Qmq hc;obtain⟨r,H,e1,v0,rfl,e2,_⟩:=Q8z x l hb hl;have e:keyC (Qwu (Qb l))=Qb (Qdu (Xh l) 4):=by rw[Q3r];simp only[keyC,Qdu,Qqp,K8,Zsz,wi];rfl
 rw[e];exact⟨_,_,e1,e2⟩
end
section
set_option maxRecDepth 100000
open Go.AM
attribute [local irreducible] U W
theorem Q4q(v:V)(l:List UInt8)(hv:Qf v l)(hl:l.length<=1048576):Fz Tryz.prog Qg 120 [v] fun x=>x= .iS (Qb (Qdu (Xh l) 4)) 16 false:=by refine Fz.of_cw ((Q8z v l hv hl).mono ?_);rintro r H ⟨v0,rfl,_,h⟩;exact⟨v0,rfl,_,h,rfl⟩
theorem Zb7(l:List UInt8):Qf (.iS (Qb (Qdu (Xh l) 4)) 16 false) (Qdu (Xh l) 4):=by have h:(Qdu (Xh l) 4).length=16:=Qd0 _ 4;have:=Qf.mk (Qdu (Xh l) 4) false;rwa[h] at this
theorem rows2{a b:V}{k l:List UInt8}(ha:Qf a k)(hb:Qf b l)(f:Bool):Kt (.iS [a,b] 2 f) [k,l]:=⟨[a,b],⟨a,[b],rfl,ha,b,[],rfl,hb,rfl⟩,Q0.mk rfl⟩
theorem Qr0{a b c:V}{k l m:List UInt8}(ha:Qf a k)(hb:Qf b l)(hc:Qf c m)(f:Bool):Kt (.iS [a,b,c] 3 f) [k,l,m]:=⟨[a,b,c],⟨a,[b,c],rfl,ha,b,[c],rfl,hb,c,[],rfl,hc,rfl⟩,Q0.mk rfl⟩
theorem Qgo{v:V}{rows:List (List UInt8)}(h:Kt v rows)(g:Get)(n:Nat):frz g (n+1) v=some v:=by obtain⟨cs,hc,hv⟩:=h;exact hv.frz n
theorem Q96(v:V)(rows:List (List UInt8))(hv:Kt v rows)(hn:rows.length<=1048576)(hl:rows.flatten.length<=1048576)(hpos:0<rows.flatten.length):Fz Tryz.prog Qg 172 [v] fun x=>x= .iS (Qb (Qdu (Xh rows.flatten) 4)) 16 false:=by refine Qw Tryz.func172 rfl ?_;obtain⟨m,rfl,hm⟩:=(Qiq v rows hv hn hl hpos).op (by rfl) (Qa (Qgo hv _ _) rfl);have hm1:∀s H,_:=fun s H=>hm 172 0 s H rfl;obtain⟨m,rfl,hm⟩:=(Q4q _ _ (Qf.mk rows.flatten false) hl).op (by rfl) (Qa ((Qf.mk rows.flatten false).frz _) rfl);have hm2:∀s H,_:=fun s H=>hm 172 0 s H rfl;have hk:=Zb7 rows.flatten;generalize Qdu (Xh rows.flatten) 4=z at*;simp only[wA,↓Qc,simprocAttr,Tryz.ntmps172,ta,wH,wB,hm1,hm2];exact W.done (Qk.ret (v:= .iS (Qb z) 16 false) rfl (hk.frz 11) rfl)
def RNum(x:V):Prop:=∃n e:Int,x= .tuple [.int .u32 n,.int .i64 e]
theorem tag_fz(kv bv:V)(k b:List UInt8)(hk:Qf kv k)(hb:Qf bv b)(hkl:k.length<=100000)(hbl:b.length<=100000):Fz Tryz.prog Qg 124 [kv,bv] RNum:=by
 refine Qw Tryz.func124 rfl ?_;have len:=hk.len Tryz.underlying26;by_cases h16:k.length=16
 . rw[h16] at len;have h1:Qf (.iS [.int .u8 1] 1 true) [1]:=Qf.mk [1] true;have h2:Qf (.iS [.int .u8 2] 1 true) [2]:=Qf.mk [2] true;obtain⟨m,rfl,hm⟩:=(Q96 _ _ (Qr0 hk h1 hb true) (by simp) (by simp;omega) (by simp;omega)).op (by rfl) (Qa (Qgo (Qr0 hk h1 hb true) _ _) rfl);have hm1:∀s H,_:=fun s H=>hm 124 0 s H rfl;have hz:=Zb7 [k,[1],b].flatten;have hzl:(Qdu (Xh [k,[1],b].flatten) 4).length=16:=Qd0 _ 4;generalize Qdu (Xh [k,[1],b].flatten) 4=z at*;obtain⟨m,rfl,hm⟩:=(Qiq _ _ (Qr0 hk h2 hz true) (by simp) (by simp;omega) (by simp;omega)).op (by rfl) (Qa (Qgo (Qr0 hk h2 hz true) _ _) rfl);have hm2:∀s H,_:=fun s H=>hm 124 0 s H rfl;have hfl:[k,[2],z].flatten.length=33:=by simp;omega
   have hf:=Qf.mk [k,[2],z].flatten false;generalize[k,[2],z].flatten=q at*;obtain⟨m,rfl,hm⟩:=(Q8b _ q hf (by omega)).op (by rfl) (Qa (hf.frz _) rfl);have hm3:∀s H,_:=fun s H=>hm 124 0 s H rfl;generalize((Xh q).a:Int)=y at*;have mt:∀s,s<2000000->Qg.mt 124 s=false:=fun s h=>Qch h rfl;have pk:=Qf0 hk;have pb:=Qf0 hb;have sk:=Bu hk;have sb:=Bu hb;simp only[wA,↓Qc,simprocAttr,Tryz.ntmps124,ta,wH,wB,len,hm1,hm2,hm3,mt,pk,pb,sk,sb,Tryz.underlying26,Tryz.underlying22];exact W.done (Qk.ret (v:= .tuple [.int .u32 y,.int .i64 0]) rfl rfl ⟨y,0,rfl⟩)
 . have c1:((k.length:Int) !=16)=true:=by simp;omega
   simp only[wA,↓Qc,simprocAttr,Tryz.ntmps124,ta,wH,wB,len,c1];exact W.done (Qk.ret (v:= .tuple [.int .u32 0,.int .i64 2]) rfl rfl ⟨0,2,rfl⟩)
def RPut(x:V):Prop:=∃(v:V) (l:List UInt8) (e:Int),x= .tuple [v,.int .i64 e]/\Qf v l/\l.length<=4
theorem Qmd(n:Int)(hn: -9223372036854775808<=n/\n<=9223372036854775807):Fz Tryz.prog Qg 77 [.int .i64 n,.int .i64 4] RPut:=by
 by_cases h:0<=n/\n<4294967296
 . obtain⟨m,rfl⟩:∃m:Nat,n=m:=⟨n.toNat,by omega⟩;refine(Q86 m (by omega)).mono ?_;rintro x rfl;exact⟨_,leB m 4,0,rfl,by have:=Qf.mk (leB m 4) false;rwa[Qdn] at this,by rw[Qdn];omega⟩
 . refine Qw Tryz.func77 rfl ?_;obtain⟨m,rfl,hm⟩:=(Qqy 4).op (by rfl) rfl;have hm1:∀s H,callOp Qg (Qp Tryz.prog Qg) 77 0 s 122 [.int .i64 4] H=some (.ret (.bool true),H):=fun s H=>hm 77 0 s H rfl;have m8:(IntKind.i64).wrap 32=32:=by rw[wrap_i64]<;>omega
   have sh:∀p q,Zp Tryz.prog .shl 3 p q (.int .i64 1) (.int .i64 32)=some (.int .i64 4294967296):=fun p q=>rfl;by_cases h0:n<0
   . have c1:decide (n<0)=true:=Zum h0;simp only[wA,↓Qc,simprocAttr,Tryz.ntmps77,ta,wH,wB,hm1,c1,m8,sh];exact W.done (Qk.ret (v:= .tuple [.nS,.int .i64 2]) rfl rfl ⟨_,[],2,rfl,Qf.nil,by simp⟩)
   . have c1:decide (n<0)=false:=Zun h0;have c2:decide (n>=4294967296)=true:=Zum (by omega);simp only[wA,↓Qc,simprocAttr,Tryz.ntmps77,ta,wH,wB,hm1,c1,c2,m8,sh];exact W.done (Qk.ret (v:= .tuple [.nS,.int .i64 2]) rfl rfl ⟨_,[],2,rfl,Qf.nil,by simp⟩)
theorem Q3k(n:Int): -9223372036854775808<=(IntKind.i64).wrap n/\(IntKind.i64).wrap n<=9223372036854775807:=by rw[IntKind.wrap_i64];omega
theorem Q40(kv bv:V)(k b:List UInt8)(iv:Int)(hk:Qf kv k)(hb:Qf bv b)(hkl:k.length<=100000)(hbl:b.length=256):Fz Tryz.prog Qg 101 [kv,.int .u32 iv,bv] RNum:=by
 refine Qw Tryz.func101 rfl ?_;have cv:∀g,convertV Tryz.prog g 27 3 (.int .u32 iv)=some (.val (.int .i64 ((IntKind.i64).wrap iv)) none):=fun g=>by simp only[convertV,Tryz.underlying3,Tryz.underlying27]
 have hr:=Q3k iv;generalize(IntKind.i64).wrap iv=n at*;obtain⟨m,⟨pv,l,e,rfl,hl,hll⟩,hm⟩:=(Qmd n hr).op (by rfl) rfl;have hm1:∀s H,_:=fun s H=>hm 101 0 s H rfl;cases c1:(e !=0)
 . obtain⟨m,rfl,hm⟩:=(Qiq _ _ (rows2 hl hb true) (by simp) (by simp;omega) (by simp;omega)).op (by rfl) (Qa (Qgo (rows2 hl hb true) _ _) rfl);have hm2:∀s H,_:=fun s H=>hm 101 0 s H rfl;have hfl:[l,b].flatten.length<=100000:=by simp;omega
   have hf:=Qf.mk [l,b].flatten false;generalize[l,b].flatten=q at*;obtain⟨m,⟨y,z,rfl⟩,hm⟩:=(tag_fz kv _ k q hk hf hkl hfl).op (by rfl) (Qa (hk.frz _) (Qa (hf.frz _) rfl));have hm3:∀s H,_:=fun s H=>hm 101 0 s H rfl;have mt:∀s,s<2000000->Qg.mt 101 s=false:=fun s h=>Qch h rfl;have pl:=Qf0 hl;have pb:=Qf0 hb;have sl:=Bu hl;have sb:=Bu hb;simp only[wA,↓Qc,simprocAttr,Tryz.ntmps101,ta,wH,wB,cv,hm1,c1,hm2,hm3,mt,pl,pb,sl,sb,Tryz.underlying22];exact W.done (Qk.ret (v:= .tuple [.int .u32 y,.int .i64 z]) rfl rfl ⟨y,z,rfl⟩)
 . simp only[wA,↓Qc,simprocAttr,Tryz.ntmps101,ta,wH,wB,cv,hm1,c1];exact W.done (Qk.ret (v:= .tuple [.int .u32 0,.int .i64 e]) rfl rfl ⟨0,e,rfl⟩)
theorem Q5q(kv:V)(k:List UInt8)(iv:Int)(hk:Qf kv k):Fz Tryz.prog Qg 207 [kv,.int .u32 iv] fun x=>∃(fv:V) (l:List UInt8),x= .func (.func 235) [] [.iptr [kv] 0,.iptr [fv] 0]/\Qf fv l/\l.length<=4:=by
 refine Qw Tryz.func207 rfl ?_;have cv:∀g,convertV Tryz.prog g 27 3 (.int .u32 iv)=some (.val (.int .i64 ((IntKind.i64).wrap iv)) none):=fun g=>by simp only[convertV,Tryz.underlying3,Tryz.underlying27]
 have hr:=Q3k iv;generalize(IntKind.i64).wrap iv=n at*;obtain⟨m,⟨pv,l,e,rfl,hl,hll⟩,hm⟩:=(Qmd n hr).op (by rfl) rfl;have hm1:∀s H,_:=fun s H=>hm 207 0 s H rfl;have sk:=Bu hk;have sl:=Bu hl;have sks:=Ze hk;have sls:=Ze hl;simp only[wA,↓Qc,simprocAttr,Tryz.ntmps207,ta,wH,wB,cv,hm1,sk,sl,sks,sls];refine W.done (Qk.ret (v:= .func (.func 235) [] [.ptr 0 2 0,.ptr 0 5 0]) rfl ?_ ⟨pv,l,rfl,hl,hll⟩);have e1:AM.frz (Qd [[(2,O.cells [kv]),(5,.cells [pv])]]) 11 (.ptr 0 2 0)=some (.iptr [kv] 0):=by show(Qt (AM.frz (Qd [[(2,O.cells [kv]),(5,.cells [pv])]]) 10) [kv]).map _=_;rw[Qa (hk.frz 9) rfl];rfl
 have e2:AM.frz (Qd [[(2,O.cells [kv]),(5,.cells [pv])]]) 11 (.ptr 0 5 0)=some (.iptr [pv] 0):=by show(Qt (AM.frz (Qd [[(2,O.cells [kv]),(5,.cells [pv])]]) 10) [pv]).map _=_;rw[Qa (hl.frz 9) rfl];rfl
 show(match Qt (AM.frz _ 11) [],Qt (AM.frz _ 11) [.ptr 0 2 0,.ptr 0 5 0] with|some a,some b=>some (V.func _ a b)|_,_=>none)=_;rw[Qa e1 (Qa e2 rfl)];rfl
theorem Q1r(kv fv:V)(k l:List UInt8)(hk:Qf kv k)(hkl:k.length=16)(hf:Qf fv l)(hfl:l.length<=4)(m:Nat)(hm:m<=100000)(fo so:Nat)(H0:Heap)(I:Nat->Heap->Prop)(S:Heap->Prop)(h0:I 0 (H0++[[]]))
 (step:∀j H,j<=m->I j H->∀w z,Qf w z->z.length=16->∃b H',Qp Tryz.prog Qg none [.yield fo so,w] H=some (.ret (.bool b),H')/\(b=true->j<m/\I (j+1) H')/\(b=false->S H')):
 CW Tryz.prog Qg 235 [.yield fo so,.iptr [kv] 0,.iptr [fv] 0] H0 fun r H' =>r= .ret (.tuple [])/\∃HE,S HE/\H' =Bb H0.length (.tuple []) HE:=by
 refine Kb Tryz.func235 rfl ?_;simp only[wA,↓Qc,simprocAttr,Tryz.ntmps235,ta,wH,wB];refine W.ul ?_;refine W.loop (fun(j:Nat) t H=>Yf [0,1,2,4] t 0=Q4d (.yield fo so) (.iptr [kv] 0) (.iptr [fv] 0) (.int .i64 j)/\j<=m/\I j H) (fun j=>m-j) ?_ 0 ⟨rfl,Zt2 _,h0⟩;rintro j t H ⟨ht,hj,hI⟩;refine⟨_,_,Ji (kt:=[0,1,2,4]) rfl rfl,?_⟩;rw[ht];simp only[Q4d];obtain⟨q,⟨pv,p,e,rfl,hp,hpl⟩,hm0⟩:=(Qmd j (by omega)).op (by rfl) rfl;have hm1:∀fr s H,_:=fun fr s H=>hm0 235 fr s H rfl;obtain⟨q,rfl,hm0⟩:=(Qiq _ _ (Qr0 hk hf hp true) (by simp) (by simp;omega) (by simp;omega)).op (by rfl) (Qa (Qgo (Qr0 hk hf hp true) _ _) rfl);have hm2:∀fr s H,_:=fun fr s H=>hm0 235 fr s H rfl;have hfl:[k,l,p].flatten.length<=1048576:=by simp;omega
 have hq:=Qf.mk [k,l,p].flatten false;generalize[k,l,p].flatten=c at*;obtain⟨q,rfl,hm0⟩:=(Q4q _ c hq hfl).op (by rfl) (Qa (hq.frz _) rfl);have hm3:∀fr s H,_:=fun fr s H=>hm0 235 fr s H rfl;have hz:=Zb7 c;have hzl:(Qdu (Xh c) 4).length=16:=Qd0 _ 4;generalize Qdu (Xh c) 4=z at*;obtain⟨b,H',st,hT,hF⟩:=step j H hj hI _ z hz hzl;have mt:∀s,s<2000000->Qg.mt 235 s=false:=fun s h=>Qch h rfl;have p1:=Qf0 hk;have p2:=Qf0 hf;have p3:=Qf0 hp;have c1:=Bu hk;have c2:=Bu hf;have c3:=Bu hp;have wi:(IntKind.i64).wrap ((j:Int)+1)=((j+1:Nat):Int):=by rw[wrap_i64]<;>omega
 cases b
 . simp only[wA,↓Qc,simprocAttr,ta,wH,wB,hm1,hm2,hm3,st,Z6,Qdt,mt,p1,p2,p3,c1,c2,c3,wi,Tryz.underlying22];refine W.done ?_;simp only[wA,↓Qc,simprocAttr];exact W.done (End.ret (v:= .tuple []) rfl ⟨rfl,_,hF rfl,rfl⟩)
 . obtain⟨hlt,hI'⟩:=hT rfl;simp only[wA,↓Qc,simprocAttr,ta,wH,wB,hm1,hm2,hm3,st,Z6,Qdt,mt,p1,p2,p3,c1,c2,c3,wi,Tryz.underlying22];exact W.done ⟨j+1,⟨rfl,hlt,hI'⟩,by omega⟩
theorem Qwg{H:Heap}{fr s st f r i:Nat}{t t0:List V}(hg:Qd H fr s=some (.loop st (some (some i)) f r t0))(hst:st≠1)(h1:Qi (Je fr s) t=false)(h2:Qz (Je fr s) (H.modify fr (Jb fun x=>[s].contains x))=true):
 Kx fr s t H=some (.exit i,t,H.modify fr (Jb fun x=>[s].contains x)):=by
 simp only[Kx,hg,if_neg hst,h1,h2,Zre,if_false,if_true]
def Qft(v:V)(o:AM.O):AM.Frame:=[(5,.cells [.int .i64 256]),(8,.cells [v]),(1000005,o)]
def strI(T:List V):Nat->Heap->Prop
 |0,H=>H=[[],Qft .nS (.loop 0 none 182 5 T),[]]
 |j+1,H=>∃c:List UInt8,c.length=16*(j+1)/\H=[[],Qft (.gS 3 31 (Qb c) (16*(j+1)) 1) (.loop 0 none 182 5 T),[],[(31,.grow (16*(j+1)))]]
def strS(T:List V)(H:Heap):Prop:=∃c:List UInt8,c.length=256/\H=[[],Qft (.gS 3 31 (Qb c) 256 1) (.loop 2 (some (some 0)) 182 5 T),[],[(31,.grow 256)]]
theorem Qoz{n:Nat}(hn:2<=n){T:List V}(hr:Qi (fun f _=>Nat.ble 2 f) T=false){v:V}{st:Nat}{p:Option (Option Nat)}(hv:v.refs (fun f _=>Nat.ble n f)=false):
 Zb (fun f _=>Nat.ble n f) (Qft v (.loop st p 182 5 T))=true:=by
 have h0:(O.loop st p 182 5 T).refs (fun f _=>Nat.ble n f)=false:=J9 (Qb3 hn) T hr;have h1:(O.cells [v]).refs (fun f _=>Nat.ble n f)=false:=by simp only[O.refs,Qi,hv];rfl
 simp only[Qft,Zb,h0,h1];rfl
theorem Q6x(T:List V)(hT:T.length=36)(h5:T.getD 5 .bad= .ptr 1 5 0)(h8:T.getD 8 .bad= .ptr 1 8 0)(hr:Qi (fun f _=>Nat.ble 2 f) T=false)(j:Nat)(hj:j<=16)(H:Heap)(hI:strI T j H)(w:V)(z:List UInt8)(hw:Qf w z)(hz:z.length=16):
 ∃b H',Qp Tryz.prog Qg none [.yield 1 1000005,w] H=some (.ret (.bool b),H')/\(b=true->j<16/\strI T (j+1) H')/\(b=false->strS T H'):=by
 have mt:∀s,s<2000000->Qg.mt 182 s=false:=fun s h=>Qch h rfl;have sc:∀g,Ql g 1 w=some (Qb z,z.length):=fun g=>Q0.sc hw;rw[hz] at sc;have sw:=Ze hw;have lg:∀(g:Get) (f s:Nat) (c:List V) (n e:Nat),Y4 Tryz.prog g 26 (.gS f s c n e)=some (.int .i64 n):=fun g f s c n e=>Q4j Tryz.underlying26 g;have scw:=Bu hw;cases j with
 |zero=>
  cases hI;have g0:Qd [[],Qft .nS (.loop 1 none 182 5 T),[],[]] 3 31=none:=rfl;have ap:Qq Tryz.prog (Qg.mt 182) 3 (Qd [[],Qft .nS (.loop 1 none 182 5 T),[],[]]) (some 31) 26 26 .nS w=some (.val (.gS 3 31 (Qb z) 16 1) (some (3,31,.grow 16))):=by rw[Qbq Tryz.underlying26 sz5 Qcp zc5 rfl Tryz.underlying26 (sc _) (by decide) (by decide),Xc (mt _ (by decide)) (Yc _) g0]
  obtain⟨r,H3,h1,x,rfl,h5⟩:=B8 (P:=Tryz.prog) (pol:=Qg) (fo:=1) (so:=1000005) (args:=[w]) (H:=[[],Qft .nS (.loop 0 none 182 5 T),[]]) (p:=none) (fL:=182) (rid:=5) (t0:=T)
   (R:=fun r H' =>∃b,r= .ret (.bool b)/\(b=true->0<16/\strI T 1 H')/\(b=false->strS T H')) rfl (X9 Tryz.func182 rfl rfl) rfl (by
     change W (U _ _ _ _ _ _ _ .normal (T.set 24 _) _) _;simp only[wA,↓Qc,simprocAttr,wH,wB,ta,Yo,Yq,Zs5,hT,h5,h8,Nat.reduceBEq,lg];refine W.done ⟨rfl,none,182,5,T,rfl,?_⟩;simp only[Qft] at ap⊢;simp only[wA,↓Qc,simprocAttr,wH,wB,ta,Yo,Yq,Zs5,hT,h5,h8,Nat.reduceBEq,lg,Q2,ap,mt,Tryz.underlying26,sw,scw];refine W.done ⟨_,_,rfl,true,rfl,fun _=>⟨z,by omega,?_⟩,(fun h=>by cases h)⟩
     exact Qc4 rfl)
  exact⟨x,H3,h1,h5⟩
 |succ j=>
  obtain⟨c,hc,rfl⟩:=hI;have crefs:∀q (l:List UInt8),Qi q (Qb l)=false:=fun q l=>Qbs q l;by_cases h16:j+1=16
  . have hj15:j=15:=by omega
    subst hj15;obtain⟨r,H3,h1,x,rfl,h5⟩:=B8 (P:=Tryz.prog) (pol:=Qg) (fo:=1) (so:=1000005) (args:=[w]) (H:=[[],Qft (.gS 3 31 (Qb c) (16*(15+1)) 1) (.loop 0 none 182 5 T),[],[(31,.grow (16*(15+1)))]]) (p:=none) (fL:=182) (rid:=5) (t0:=T)
     (R:=fun r H' =>∃b,r= .ret (.bool b)/\(b=true->15+1<16/\strI T (15+1+1) H')/\(b=false->strS T H')) rfl (X9 Tryz.func182 rfl rfl) rfl (by
       change W (U _ _ _ _ _ _ _ .normal (T.set 24 _) _) _;simp only[wA,↓Qc,simprocAttr,wH,wB,ta,Yo,Yq,Zs5,hT,h5,h8,Nat.reduceBEq,lg];refine W.done ⟨rfl,none,182,5,T,rfl,?_⟩;simp only[Qft];simp only[wA,↓Qc,simprocAttr,wH,wB,ta,Yo,Yq,Zs5,hT,h5,h8,Nat.reduceBEq,lg];refine W.done ⟨_,_,rfl,false,rfl,(fun h=>by cases h),fun _=>⟨c,hc,?_⟩⟩;refine Zl (H:=[[],Qft (.gS 3 31 (Qb c) 256 1) (.loop 2 (some (some 0)) 182 5 T),[],[(31,.grow 256)]]) (G:=[[]]) rfl ?_;show Qz (fun f _=>Nat.ble 4 f) _=true
       simp only[Qz,Qoz (n:=4) (by omega) hr (v:= .gS 3 31 (Qb c) 256 1) (st:=2) (p:=some (some 0)) (by simp only[V.refs,crefs];rfl)];rfl)
    exact⟨x,H3,h1,h5⟩
  . have pz:∀q,Qi q (Qb (c++z))=false:=fun q=>Qbs q _;generalize hR:[[],Qft (.gS 3 31 (Qb c) (16*(j+1)) 1) (.loop 1 none 182 5 T),[],[(31,.grow (16*(j+1)))],[]]=HH;have g0:Qd HH 3 31=some (.grow (16*(j+1))):=by rw[<-hR];rfl
    have ap:Qq Tryz.prog (Qg.mt 182) 4 (Qd HH) (some 31) 26 26 (.gS 3 31 (Qb c) (16*(j+1)) 1) w=some (.val (.gS 3 31 (Qb (c++z)) (16*(j+1+1)) 1) (some (3,31,.grow (16*(j+1+1))))):=by rw[Qa2 Tryz.underlying26 sz5 Qcp zc5 rfl Tryz.underlying26 (sc _) (by decide) (Jj (by omega) (by omega)) (Yc _) (Ja _) g0,K8,show 16*(j+1)+16=16*(j+1+1) by omega]
    rw[<-hR] at ap;have c1:decide (((16*(j+1):Nat):Int)>=256)=false:=by simp only[decide_eq_false_iff_not];omega
    obtain⟨r,H3,h1,x,rfl,h5⟩:=B8 (P:=Tryz.prog) (pol:=Qg) (fo:=1) (so:=1000005) (args:=[w]) (H:=[[],Qft (.gS 3 31 (Qb c) (16*(j+1)) 1) (.loop 0 none 182 5 T),[],[(31,.grow (16*(j+1)))]]) (p:=none) (fL:=182) (rid:=5) (t0:=T)
     (R:=fun r H' =>∃b,r= .ret (.bool b)/\(b=true->j+1<16/\strI T (j+1+1) H')/\(b=false->strS T H')) rfl (X9 Tryz.func182 rfl rfl) rfl (by
       change W (U _ _ _ _ _ _ _ .normal (T.set 24 _) _) _;simp only[wA,↓Qc,simprocAttr,wH,wB,ta,Yo,Yq,Zs5,hT,h5,h8,Nat.reduceBEq,lg];refine W.done ⟨rfl,none,182,5,T,rfl,?_⟩;clear hR g0;generalize hk:16*(j+1)=kk at*;generalize hk2:16*(j+1+1)=kk2 at*;simp only[Qft] at ap⊢;simp only[wA,↓Qc,simprocAttr,wH,wB,ta,Yo,Yq,Zs5,hT,h5,h8,Nat.reduceBEq,lg,Q2,ap,mt,Tryz.underlying26,sw,scw,c1];refine W.done ⟨_,_,rfl,true,rfl,fun _=>⟨by omega,c++z,by simp;omega,?_⟩,(fun h=>by cases h)⟩;rw[hk2];refine Zl (H:=[[],Qft (.gS 3 31 (Qb (c++z)) kk2 1) (.loop 0 none 182 5 T),[],[(31,.grow kk2)]]) (G:=[[]]) rfl ?_;show Qz (fun f _=>Nat.ble 4 f) _=true
       simp only[Qz,Qoz (n:=4) (by omega) hr (v:= .gS 3 31 (Qb (c++z)) kk2 1) (st:=0) (p:=none) (by simp only[V.refs,pz];rfl)];rfl)
    exact⟨x,H3,h1,h5⟩
theorem Zdv(l:List UInt8)(f:Bool)(n:Nat)(hn:l.length=n)(h0:0<n)(hl:n<=1048576):CW Tryz.prog Qg 123 [.iS (Qb l) n f] [] fun r H=>r= .ret (.mS 0 7 0 n none 1)/\Qd H 0 7=some (.cells (Qb l)):=by
 refine Kb Tryz.func123 rfl ?_;subst hn;have hv:=Qf.mk l f;have sc:=Q0.sc (g:=Qd [[]]) hv;have mt7:Qg.mt 123 7=true:=rfl;have mt5:Qg.mt 123 5=false:=rfl;have ap:Qq Tryz.prog (Qg.mt 123) 0 (Qd [[]]) (some 7) 26 26 (.iS [] 0 true) (.iS (Qb l) l.length f)=some (.val (.mS 0 7 0 l.length none 1) (some (0,7,.cells (Qb l)))):=by rw[Qk2 Tryz.underlying26 sz5 Qcp zc5 rfl Tryz.underlying26 sc h0 rfl (Jj (by omega) (by omega)),Zti,Zrm,Qqb mt7 (Ja l) rfl]
 simp only[wA,↓Qc,simprocAttr,Tryz.ntmps123,ta,wH,wB,Qbk Tryz.underlying26,Q2,ap,mt7,mt5,Tryz.underlying26];refine W.done (End.ret (v:= .mS 0 7 0 l.length none 1) rfl ⟨rfl,?_⟩);rw[K3 rfl];rfl
def strH(c o:List UInt8):Heap:=[[],[(5,.cells [.int .i64 256]),(8,.cells [.gS 3 31 (Qb c) 256 1]),(35,.cells (Qb o))],[],[(31,.grow 256)]]
theorem Zar(kv fv:V)(k l:List UInt8)(hk:Qf kv k)(hkl:k.length=16)(hf:Qf fv l)(hfl:l.length<=4)(T:List V)(hT:T.length=36)(h5:T.getD 5 .bad= .ptr 1 5 0)(h8:T.getD 8 .bad= .ptr 1 8 0)(hr:Qi (fun f _=>Nat.ble 2 f) T=false):
 CW Tryz.prog Qg 235 [.yield 1 1000005,.iptr [kv] 0,.iptr [fv] 0] [[],Qft .nS (.loop 0 none 182 5 T)] fun r H' =>r= .ret (.tuple [])/\strS T H' :=by
 refine(Q1r kv fv k l hk hkl hf hfl 16 (by omega) 1 1000005 [[],Qft .nS (.loop 0 none 182 5 T)] (strI T) (strS T) rfl ?_).mono ?_
 . intro j H hj hI w z hw hz;exact Q6x T hT h5 h8 hr j hj H hI w z hw hz
 . rintro r H ⟨rfl,HE,⟨c,hc,rfl⟩,rfl⟩;exact⟨rfl,c,hc,Qc4 rfl⟩
theorem Q6b(kv:V)(k:List UInt8)(iv:Int)(hk:Qf kv k)(hkl:k.length=16):CW Tryz.prog Qg 182 [kv,.int .u32 iv,.int .i64 256] [[]] fun r H' =>∃c:List UInt8,c.length=256/\r= .ret (.tuple [.mS 1 35 0 256 none 1,.int .i64 0])/\H' =strH c c:=by
 refine Kb Tryz.func182 rfl ?_;obtain⟨m,⟨fv,l,rfl,hf,hfl⟩,hm⟩:=(Q5q kv k iv hk).op (by rfl) (Qa (hk.frz _) (Qa rfl rfl));have hm1:∀fr s H,_:=fun fr s H=>hm 182 fr s H rfl;have len:=hk.len Tryz.underlying26;rw[hkl] at len;have nk:∀q,kv.refs q=false:=fun q=>hk.noRefs q;have nf:∀q,fv.refs q=false:=fun q=>hf.noRefs q;simp only[wA,↓Qc,simprocAttr,Tryz.ntmps182,ta,wH,wB,len,hm1];refine W.rfunc (rid:=5) rfl rfl rfl ?_;refine(Zar kv fv k l hk hkl hf hfl _ rfl rfl rfl ?_).mono ?_
 . simp only[Qi,V.refs,nk,nf];rfl
 rintro r H2 ⟨rfl,c,hc,rfl⟩;refine⟨_,rfl,?_⟩;have cr:∀q,Qi q (Qb c)=false:=fun q=>Qbs q c;have hH:∀T G,List.modify ([]::Qft (.gS 3 31 (Qb c) 256 1) (.loop 2 (some (some 0)) 182 5 T)::G) 1 (Jb fun x=>[Qv 5].contains x)=[]::[(5,O.cells [.int .i64 256]),(8,.cells [.gS 3 31 (Qb c) 256 1])]::G:=fun T G=>rfl;rw[Qwg (st:=2) (i:=0) (f:=182) (r:=5) rfl (by decide) (by simp only[Qi,V.refs,nk,nf];rfl) (by
  rw[hH]
  simp only[Qz,Zb,O.refs,Qi,V.refs,cr];rfl)]
 rw[hH];obtain⟨r,H1,g1,rfl,g2⟩:=Zdv c false 256 hc (by omega) (by omega);have lf:∀(H:Heap),Qd H 1 35=none->callOp Qg (Qp Tryz.prog Qg) 182 1 (some 35) 123 [.iS (Qb c) 256 false] H=some (.ret (.mS 1 35 0 256 none 1),wr H (some (1,35,.cells (Qb c)))):=fun H hg=>
  Qei (x:=(.mS 1 35 0 256 none 1,35,.cells (Qb c))) rfl rfl rfl rfl g1 (by simp only[Qcd,hg,g2,Yc,if_true])
 have lf0:=lf [[],[(5,O.cells [.int .i64 256]),(8,.cells [.gS 3 31 (Qb c) 256 1])],[],[(31,.grow 256)]] rfl;have sl:∀g,Zh Tryz.prog g 26 (.gS 3 31 (Qb c) 256 1) none (some (.int .i64 256)) none=some (.iS (Qb c) 256 false):=fun g=>by
  have ol:Yj (some (.int .i64 256))=some (some 256):=rfl;have on:Yj none=some none:=rfl;have cl:(Qb c).length=256*1:=by rw[Q8,hc]
  have cu:Xs 256 256 none (some 256) none=some (0,256,256):=by simp[Xs]
  have tk:((Qb c).drop (0*1)).take ((256-0)*1)=Qb c:=by rw[Nat.zero_mul,Ztu];exact Ztz (by rw[Q8,hc];decide)
  simp only[Zh,ol,on,Tryz.underlying26,sz5,Yc,Qj9,cl,cu,if_true,and_self,tk];rfl
 simp only[wA,↓Qc,simprocAttr,wH,wB,ta,Z6,sl,lf0];refine W.done (End.ret (v:= .tuple [.mS 1 35 0 256 none 1,.int .i64 0]) rfl ⟨c,hc,rfl,?_⟩);rw[K3 rfl];rfl
end
end Go.Proofs.YtidniacddkalaaaGreatDoor
