/- This file holds in one the texts TP4, Bx29, Bf3, Bf4; each says at its head what it proves. -/
import Derived.Test.YtidniacddkalaaaGreatDoorT13
import Derived.Test.YtidniacddkalaaaGreatDoorT19
import Derived.Test.YtidniacddkalaaaGreatDoorT23
import Derived.Test.YtidniacddkalaaaGreatDoorT25
set_option linter.unusedSimpArgs false
set_option linter.unusedVariables false
section
namespace Go.AM
theorem Qgt:∀a b:List UInt8,Lib.compareBytes a b=0↔a=b
 |[],[]=>by simp[Lib.compareBytes]
 |[],_::_=>by simp[Lib.compareBytes]
 |_::_,[]=>by simp[Lib.compareBytes]
 |a::as',b::bs' =>by
  simp only[Lib.compareBytes,List.cons.injEq];by_cases h:a<b
  . rw[if_pos h];refine⟨fun h=>absurd h (by decide),fun h2=>?_⟩;rw[h2.1] at h;exact absurd h (UInt8.lt_irrefl _)
  . rw[if_neg h];by_cases h2:b<a
    . rw[if_pos h2];refine⟨fun h=>absurd h (by decide),fun h3=>?_⟩;rw[h3.1] at h2;exact absurd h2 (UInt8.lt_irrefl _)
    . rw[if_neg h2,Qgt as' bs'];have:a=b:=UInt8.le_antisymm (UInt8.not_lt.1 h2) (UInt8.not_lt.1 h);simp[this]
theorem Qnz:∀a b:List UInt8,Lib.compareBytes a b<0↔Op.bytesLess a b=true
 |[],[]=>by simp[Lib.compareBytes,Op.bytesLess]
 |[],_::_=>by simp[Lib.compareBytes,Op.bytesLess]
 |_::_,[]=>by simp[Lib.compareBytes,Op.bytesLess]
 |a::as',b::bs' =>by
  simp only[Lib.compareBytes,Op.bytesLess];by_cases h:a<b
  . rw[if_pos h];simp[h]
  . rw[if_neg h];by_cases h2:b<a
    . rw[if_pos h2];have:(a==b)=false:=by
       rw[beq_eq_false_iff_ne];intro e;rw[e] at h2;exact absurd h2 (UInt8.lt_irrefl _)
      simp[h,this]
    . rw[if_neg h2,Qnz as' bs'];have:a=b:=UInt8.le_antisymm (UInt8.not_lt.1 h2) (UInt8.not_lt.1 h);simp[this,UInt8.lt_irrefl]
theorem Qyb:∀a b:List UInt8,Lib.compareBytes b a= -Lib.compareBytes a b
 |[],[]=>by simp[Lib.compareBytes]
 |[],_::_=>by simp[Lib.compareBytes]
 |_::_,[]=>by simp[Lib.compareBytes]
 |a::as',b::bs' =>by
  simp only[Lib.compareBytes];by_cases h:a<b
  . have h2:¬b<a:=UInt8.lt_asymm h;simp[h,h2]
  . by_cases h2:b<a
    . simp[h,h2]
    . simp only[if_neg h,if_neg h2];exact Qyb as' bs'
theorem Qpm:∀{a b c:List UInt8},Op.bytesLess a b=true->Op.bytesLess b c=true->Op.bytesLess a c=true
 |_,[],_,h,_=>by cases‹List UInt8›<;>simp[Op.bytesLess] at h
 |_,_::_,[],_,h=>by simp[Op.bytesLess] at h
 |[],b::bs',c::cs,_,_=>by simp[Op.bytesLess]
 |a::as',b::bs',c::cs,h1,h2=>by
  simp only[Op.bytesLess,Zs4,decide_eq_true_eq,Zr1,beq_iff_eq] at h1 h2⊢;rcases h1 with h1|⟨rfl,h1⟩<;>rcases h2 with h2|⟨rfl,h2⟩
  . exact .inl (UInt8.lt_trans h1 h2)
  . exact .inl h1
  . exact .inl h2
  . exact .inr ⟨rfl,Qpm h1 h2⟩
theorem Ql2{c:Nat->Int}{k j0:Nat}(h1:∀m,m<k->c m<0)(h2:∀m,k<=m->m<j0->0<=c m):∀n i j,j-i<=n->i<=k->k<=j->j<=j0->Qe3 c n i j=k
 |0,i,j,h,h3,h4,h5=>by
  have:Qe3 c 0 i j=i:=rfl;omega
 |n+1,i,j,h,h3,h4,h5=>by
  simp only[Qe3];by_cases h6:i<j
  . rw[if_pos h6];by_cases h7:(i+j)/2<k
    . have:=h1 _ h7;rw[if_pos (by simpa using this)];exact Ql2 h1 h2 n _ _ (by omega) (by omega) h4 h5
    . have:=h2 ((i+j)/2) (by omega) (by omega);rw[if_neg (by simpa using this)];exact Ql2 h1 h2 n _ _ (by omega) h3 (by omega) (by omega)
  . rw[if_neg h6];omega
theorem Zdb{c:Nat->Int}{n k:Nat}(hk:k<=n)(h1:∀m,m<k->c m<0)(h2:∀m,k<=m->m<n->0<=c m):bs c n=k:=by unfold bs;exact Ql2 h1 h2 n 0 n (by omega) (Zt2 _) hk (Zrf _)
theorem Qny{l:List (List UInt8×Int)}(h:∀i,(h:i+1<l.length)->Op.bytesLess l[i].1 l[i+1].1=true)(i:Nat):∀d,(hj:i+d+1<l.length)->Op.bytesLess l[i].1 l[i+d+1].1=true
 |0,hj=>h i hj
 |d+1,hj=>Qpm (Qny h i d (by omega)) (h (i+d+1) hj)
end Go.AM
namespace Go.AM.BM
section
variable {P : Program} {E : Env} {B : Nat} {F : Nat -> Nat -> Prop} {H : Heap}
theorem Qf8{f:FuncId}{args:Array Value}{w:World}{v:V}{x:Option (Nat×Nat×O)}(one:H.length=1)(h:AM.Invokes P f args w (AM.Answer B F H E (.ret v) (wr H x))):Invokes P f args w (Answer B F H E (.ret v) (wr H x)):=by
 have key:∀e w',AM.Answer B F H E (.ret v) (wr H x) e w' ->Answer B F H E (.ret v) (wr H x) e w' :=by rintro e w' ⟨E',h1,h2,h3,h4,h5⟩;rw[one] at h4;exact⟨E',h1,h2,h3,h4,by rw[AM.wr_length];exact one⟩
 rcases h with⟨u,w',h1,h2⟩|⟨j,h1,h2⟩
 . exact .inl ⟨u,w',h1,key _ _ h2⟩
 . exact .inr ⟨j,h1,h2.mono key⟩
theorem Qih{G G' :Get}(h:GLe G G'){x:V}{l:List UInt8}(e:bytesV G x=some l):bytesV G' x=some l:=by
 unfold bytesV at e⊢;split at e
 . exact e
 . rename_i y hy;cases hs:Ql G 1 x with
   |none=>rw[hs] at e;cases e
   |some q=>
    rw[hs] at e;have hs' :Ql G' 1 x=some q:=by exact Qag h hs
    rw[hs'];exact e
theorem Qqu(nm:Nat)(G G' :Get)(args:List V)(v:V)(w:Option (Nat×Nat×O))(h:GLe G G')(e:Xa 0 (some nm) G args=some (v,w)):
 Xa 0 (some nm) G' args=some (v,w)/\∀x∈w.toList,(∃y,G x.1 x.2.1=some y)\/(x.1=0/\x.2.1=nm):=by
 unfold Xa at e⊢;split at e
 case h_2=>cases e
 rename_i y c;split at e
 case h_2=>cases e
 rename_i l hl;cases e;exact⟨by simp only[Qih h hl],fun x hx=>by cases hx⟩
theorem Qke(nm:Nat)(G G' :Get)(args:List V)(v:V)(w:Option (Nat×Nat×O))(h:GLe G G')(e:Kq 0 (some nm) G args=some (v,w)):
 Kq 0 (some nm) G' args=some (v,w)/\∀x∈w.toList,(∃y,G x.1 x.2.1=some y)\/(x.1=0/\x.2.1=nm):=by
 unfold Kq at e⊢;split at e
 case h_2=>cases e
 rename_i y c;split at e
 case h_2=>cases e
 rename_i l hl;cases e;exact⟨by simp only[Qih h hl],fun x hx=>by cases hx⟩
theorem Qlt(nm:Nat)(G G' :Get)(args:List V)(v:V)(w:Option (Nat×Nat×O))(h:GLe G G')(e:Yl 0 (some nm) G args=some (v,w)):
 Yl 0 (some nm) G' args=some (v,w)/\∀x∈w.toList,(∃y,G x.1 x.2.1=some y)\/(x.1=0/\x.2.1=nm):=by
 unfold Yl at e⊢;split at e
 case h_2=>cases e
 rename_i y z;split at e
 case h_2=>cases e
 rename_i l r hl hr;cases e;exact⟨by simp only[Qih h hl,Qih h hr],fun x hx=>by cases hx⟩
theorem Qq1(nm:Nat)(G G' :Get)(args:List V)(v:V)(w:Option (Nat×Nat×O))(h:GLe G G')(hn:G' 0 nm=G 0 nm)(e:Qdi 0 (some nm) G args=some (v,w)):
 Qdi 0 (some nm) G' args=some (v,w)/\∀x∈w.toList,(∃y,G x.1 x.2.1=some y)\/(x.1=0/\x.2.1=nm):=by
 unfold Qdi at e⊢;split at e
 case h_2=>cases e
 rename_i n d he;cases he;split at e
 case h_2=>cases e
 rename_i hg;split at e
 case isFalse=>cases e
 rename_i hc;cases e;refine⟨by simp only[hn,hg];rw[if_pos hc],fun x hx=>?_⟩;simp only[Option.toList,Zr0] at hx;subst hx;exact .inr ⟨rfl,rfl⟩
end
def NV.toL(t:NV):List V:=[t.x0,t.x1,t.x2,t.x3,t.x4,t.x5,t.x6,t.x7,t.x8,t.x9,t.x10,t.x11,t.x12,t.x13,t.x14,t.x15,t.x16,t.x17,t.x18,t.x19,t.x20,t.x21,t.x22,t.x23,t.x24,t.x25,t.x26,t.x27,t.x28,t.x29,t.x30,t.x31]
def NN.toL(t:NN):List NV:=[t.x0,t.x1,t.x2,t.x3,t.x4,t.x5,t.x6,t.x7,t.x8,t.x9,t.x10,t.x11,t.x12,t.x13,t.x14,t.x15,t.x16,t.x17,t.x18,t.x19,t.x20,t.x21,t.x22,t.x23,t.x24,t.x25,t.x26,t.x27,t.x28,t.x29,t.x30,t.x31]
theorem Zfc(d:Box (NV->V))(t:NV):∀i,i<32->(selV.getD i d).f t=t.toL.getD i .bad
 |0,_=>rfl
 |1,_=>rfl
 |2,_=>rfl
 |3,_=>rfl
 |4,_=>rfl
 |5,_=>rfl
 |6,_=>rfl
 |7,_=>rfl
 |8,_=>rfl
 |9,_=>rfl
 |10,_=>rfl
 |11,_=>rfl
 |12,_=>rfl
 |13,_=>rfl
 |14,_=>rfl
 |15,_=>rfl
 |16,_=>rfl
 |17,_=>rfl
 |18,_=>rfl
 |19,_=>rfl
 |20,_=>rfl
 |21,_=>rfl
 |22,_=>rfl
 |23,_=>rfl
 |24,_=>rfl
 |25,_=>rfl
 |26,_=>rfl
 |27,_=>rfl
 |28,_=>rfl
 |29,_=>rfl
 |30,_=>rfl
 |31,_=>rfl
 |i+32,h=>by omega
theorem Zeo(d:Box (NV->V->NV))(t:NV)(v:V):∀i,i<32->((updV.getD i d).f t v).toL=t.toL.set i v
 |0,_=>rfl
 |1,_=>rfl
 |2,_=>rfl
 |3,_=>rfl
 |4,_=>rfl
 |5,_=>rfl
 |6,_=>rfl
 |7,_=>rfl
 |8,_=>rfl
 |9,_=>rfl
 |10,_=>rfl
 |11,_=>rfl
 |12,_=>rfl
 |13,_=>rfl
 |14,_=>rfl
 |15,_=>rfl
 |16,_=>rfl
 |17,_=>rfl
 |18,_=>rfl
 |19,_=>rfl
 |20,_=>rfl
 |21,_=>rfl
 |22,_=>rfl
 |23,_=>rfl
 |24,_=>rfl
 |25,_=>rfl
 |26,_=>rfl
 |27,_=>rfl
 |28,_=>rfl
 |29,_=>rfl
 |30,_=>rfl
 |31,_=>rfl
 |i+32,h=>by omega
theorem Q4m(d:Box (NN->NV))(e:NV)(t:NN):∀i,i<32->(selN.getD i d).f t=t.toL.getD i e
 |0,_=>rfl
 |1,_=>rfl
 |2,_=>rfl
 |3,_=>rfl
 |4,_=>rfl
 |5,_=>rfl
 |6,_=>rfl
 |7,_=>rfl
 |8,_=>rfl
 |9,_=>rfl
 |10,_=>rfl
 |11,_=>rfl
 |12,_=>rfl
 |13,_=>rfl
 |14,_=>rfl
 |15,_=>rfl
 |16,_=>rfl
 |17,_=>rfl
 |18,_=>rfl
 |19,_=>rfl
 |20,_=>rfl
 |21,_=>rfl
 |22,_=>rfl
 |23,_=>rfl
 |24,_=>rfl
 |25,_=>rfl
 |26,_=>rfl
 |27,_=>rfl
 |28,_=>rfl
 |29,_=>rfl
 |30,_=>rfl
 |31,_=>rfl
 |i+32,h=>by omega
theorem Zcd(d:Box (NN->NV->NN))(t:NN)(v:NV):∀i,i<32->((updN.getD i d).f t v).toL=t.toL.set i v
 |0,_=>rfl
 |1,_=>rfl
 |2,_=>rfl
 |3,_=>rfl
 |4,_=>rfl
 |5,_=>rfl
 |6,_=>rfl
 |7,_=>rfl
 |8,_=>rfl
 |9,_=>rfl
 |10,_=>rfl
 |11,_=>rfl
 |12,_=>rfl
 |13,_=>rfl
 |14,_=>rfl
 |15,_=>rfl
 |16,_=>rfl
 |17,_=>rfl
 |18,_=>rfl
 |19,_=>rfl
 |20,_=>rfl
 |21,_=>rfl
 |22,_=>rfl
 |23,_=>rfl
 |24,_=>rfl
 |25,_=>rfl
 |26,_=>rfl
 |27,_=>rfl
 |28,_=>rfl
 |29,_=>rfl
 |30,_=>rfl
 |31,_=>rfl
 |i+32,h=>by omega
theorem Zd7(d:Box (TM->V))(t:TM):∀i,i<32->(selA.getD i d).f t=t.a.toL.getD i .bad
 |0,_=>rfl
 |1,_=>rfl
 |2,_=>rfl
 |3,_=>rfl
 |4,_=>rfl
 |5,_=>rfl
 |6,_=>rfl
 |7,_=>rfl
 |8,_=>rfl
 |9,_=>rfl
 |10,_=>rfl
 |11,_=>rfl
 |12,_=>rfl
 |13,_=>rfl
 |14,_=>rfl
 |15,_=>rfl
 |16,_=>rfl
 |17,_=>rfl
 |18,_=>rfl
 |19,_=>rfl
 |20,_=>rfl
 |21,_=>rfl
 |22,_=>rfl
 |23,_=>rfl
 |24,_=>rfl
 |25,_=>rfl
 |26,_=>rfl
 |27,_=>rfl
 |28,_=>rfl
 |29,_=>rfl
 |30,_=>rfl
 |31,_=>rfl
 |i+32,h=>by omega
theorem Zdj(d:Box (TM->V->TM))(t:TM)(v:V):∀i,i<32->((updA.getD i d).f t v).a.toL=t.a.toL.set i v
 |0,_=>rfl
 |1,_=>rfl
 |2,_=>rfl
 |3,_=>rfl
 |4,_=>rfl
 |5,_=>rfl
 |6,_=>rfl
 |7,_=>rfl
 |8,_=>rfl
 |9,_=>rfl
 |10,_=>rfl
 |11,_=>rfl
 |12,_=>rfl
 |13,_=>rfl
 |14,_=>rfl
 |15,_=>rfl
 |16,_=>rfl
 |17,_=>rfl
 |18,_=>rfl
 |19,_=>rfl
 |20,_=>rfl
 |21,_=>rfl
 |22,_=>rfl
 |23,_=>rfl
 |24,_=>rfl
 |25,_=>rfl
 |26,_=>rfl
 |27,_=>rfl
 |28,_=>rfl
 |29,_=>rfl
 |30,_=>rfl
 |31,_=>rfl
 |i+32,h=>by omega
theorem updA_b(d:Box (TM->V->TM))(t:TM)(v:V):∀i,i<32->((updA.getD i d).f t v).b=t.b
 |0,_=>rfl
 |1,_=>rfl
 |2,_=>rfl
 |3,_=>rfl
 |4,_=>rfl
 |5,_=>rfl
 |6,_=>rfl
 |7,_=>rfl
 |8,_=>rfl
 |9,_=>rfl
 |10,_=>rfl
 |11,_=>rfl
 |12,_=>rfl
 |13,_=>rfl
 |14,_=>rfl
 |15,_=>rfl
 |16,_=>rfl
 |17,_=>rfl
 |18,_=>rfl
 |19,_=>rfl
 |20,_=>rfl
 |21,_=>rfl
 |22,_=>rfl
 |23,_=>rfl
 |24,_=>rfl
 |25,_=>rfl
 |26,_=>rfl
 |27,_=>rfl
 |28,_=>rfl
 |29,_=>rfl
 |30,_=>rfl
 |31,_=>rfl
 |i+32,h=>by omega
theorem Qzt{i:Nat}(h:i<32)(T:TM):(gC i).f T=T.a.toL.getD i .bad:=by
 have:Nat.blt i 32=true:=by rw[Nat.blt_eq];exact h
 simp only[gC,this,cond_true];exact Zd7 _ T i h
theorem Qw9{i:Nat}(h:¬i<32)(h2:i<1056)(T:TM):(gC i).f T=(T.b.toL.getD ((i-32)/32) Xk).toL.getD ((i-32)%32) .bad:=by
 have:Nat.blt i 32=false:=by rw[Zt3];intro e;rw[Nat.blt_eq] at e;exact h e
 simp only[gC,this,cond_false];rw[Q4m _ Xk _ _ (by omega),Zfc _ _ _ (by omega)]
theorem sC_hi{i:Nat}(h:¬i<32)(T:TM)(v:V):(sC i).f T v=⟨T.a,(updN.getD ((i-32)/32) ⟨fun t _=>t⟩).f T.b ((updV.getD ((i-32)%32) ⟨fun t _=>t⟩).f ((selN.getD ((i-32)/32) ⟨fun t=>t.x0⟩).f T.b) v)⟩:=by
 have:Nat.blt i 32=false:=by rw[Zt3];intro e;rw[Nat.blt_eq] at e;exact h e
 simp only[sC,this,cond_false]
theorem sC_lo{i:Nat}(h:i<32)(T:TM)(v:V):(sC i).f T v=(updA.getD i ⟨fun t _=>t⟩).f T v:=by
 have:Nat.blt i 32=true:=by rw[Nat.blt_eq];exact h
 simp only[sC,this,cond_true]
theorem NV.toL_length(t:NV):t.toL.length=32:=rfl
theorem NN.toL_length(t:NN):t.toL.length=32:=rfl
theorem Qk9{α:Type}(l:List α)(i j:Nat)(v d:α)(hi:i<l.length):(l.set i v).getD j d=if j=i then v else l.getD j d:=by
 simp only[List.getD,Zs6];by_cases e:i=j
 . subst e;simp[hi]
 . rw[if_neg e,if_neg (Ne.symm e)]
theorem gC_sC{i j:Nat}(hi:i<1056)(hj:j<1056)(T:TM)(v:V):(gC j).f ((sC i).f T v)=if j=i then v else(gC j).f T:=by
 by_cases a:i<32
 . rw[sC_lo a];by_cases b:j<32
   . rw[Qzt b,Qzt b,Zdj _ _ _ _ a,Qk9 _ _ _ _ _ (by rw[NV.toL_length];exact a)]
   . rw[Qw9 b hj,Qw9 b hj,updA_b _ _ _ _ a,if_neg (by omega)]
 . rw[sC_hi a];by_cases b:j<32
   . rw[Qzt b,Qzt b,if_neg (by omega)]
   . rw[Qw9 b hj,Qw9 b hj,Zcd _ _ _ _ (by omega),Qk9 _ _ _ _ _ (by rw[NN.toL_length];omega)];by_cases e:(j-32)/32=(i-32)/32
     . rw[if_pos e,Zeo _ _ _ _ (by omega),Qk9 _ _ _ _ _ (by rw[NV.toL_length];omega),Q4m _ Xk _ _ (by omega),e];by_cases e2:(j-32)%32=(i-32)%32
       . rw[if_pos e2,if_pos (by omega)]
       . rw[if_neg e2,if_neg (by omega)]
     . rw[if_neg e,if_neg (by omega)]
structure RT(n:Nat)(T:TM)(t:List V):Prop where
 len:t.length=n
 le:n<=1056
 get:∀i,i<n->(gC i).f T=t.getD i .bad
theorem Qpf{α:Type}(n i:Nat)(x:α):(List.replicate n x).getD i x=x:=by simp only[List.getD,List.getElem?_replicate];split<;>rfl
theorem gC_emp(i:Nat)(h:i<1056):(gC i).f emp= .bad:=by
 have e2:Xk.toL=List.replicate 32 .bad:=rfl;by_cases a:i<32
 . rw[Qzt a];show Xk.toL.getD i .bad= .bad;rw[e2,Qpf]
 . rw[Qw9 a h];have e:emp.b.toL=List.replicate 32 Xk:=rfl;rw[e,Qpf,e2,Qpf]
theorem RT.put{n:Nat}{T:TM}{t:List V}(R:RT n T t)(dst:Option Nat)(v:V):RT n ((cP n dst).f T v) (Qu t dst v):=by
 cases dst with
 |none=>exact R
 |some i=>
  simp only[cP,Qu];by_cases h:i<n
  . have hb:Nat.blt i n=true:=by rw[Nat.blt_eq];exact h
    rw[hb];refine⟨by rw[Zs5];exact R.len,R.le,fun j hj=>?_⟩;have hn:=R.le;simp only[cond_true];rw[gC_sC (by omega) (by omega),Qk9 _ _ _ _ _ (by rw[R.len];exact h),R.get j hj]
  . have hb:Nat.blt i n=false:=by rw[Zt3];intro e;rw[Nat.blt_eq] at e;exact h e
    rw[hb];rw[List.set_eq_of_length_le (by rw[R.len];omega)];exact R
theorem RT.rho{n:Nat}{T:TM}{t:List V}(R:RT n T t)(x:Operand):(cR n x).f T=AM.rho t x:=by
 cases x with
 |tmp i=>
  simp only[cR,AM.rho];by_cases h:i<n
  . have hb:Nat.blt i n=true:=by rw[Nat.blt_eq];exact h
    rw[hb];exact R.get i h
  . have hb:Nat.blt i n=false:=by rw[Zt3];intro e;rw[Nat.blt_eq] at e;exact h e
    have h' :n<=i:=Nat.le_of_not_lt h;rw[hb];simp only[cond_false,List.getD];rw[Zrd (by rw[R.len];exact h')];rfl
 |const v=>rfl
 |global g=>rfl
 |func f=>rfl
theorem RT.rhoF{n:Nat}{T:TM}{t:List V}(R:RT n T t):(fun x=>(cR n x).f T)=AM.rho t:=funext R.rho
theorem Qsr(n:Nat)(T:TM):∀l:List Operand,(cL n l).f T=l.map fun x=>(cR n x).f T
 |[]=>rfl
 |x::l=>by
  have:=Qsr n T l;show(cR n x).f T::(cL n l).f T=_;rw[this];rfl
theorem toL_eq{n:Nat}{T:TM}{t:List V}(R:RT n T t):toL T n 0=t:=by
 have:∀m i,toL T m i=(List.range' i m).map fun j=>(gC j).f T:=by
  intro m
  induction m with
  |zero=>intro i;rfl
  |succ m ih=>
   intro i;show(gC i).f T::toL T m (Nat.succ i)=_;rw[ih];simp[Zrt]
 rw[this];apply Zs7;intro i;by_cases h:i<n
 . simp only[Zt4,List.getElem?_range' h,Zrb,Zrm,Nat.one_mul];rw[R.get i h,List.getD,Zra (by rw[R.len];exact h)];rfl
 . rw[Zrd (by simp;omega),Zrd (by rw[R.len];omega)]
theorem Q4a{n:Nat}(hn:n<=1056):∀(l:List V) (i:Nat) (T:TM),i+l.length<=n->∀j,j<n->(gC j).f (ofL l i T)=if i<=j/\j<i+l.length then l.getD (j-i) .bad else(gC j).f T
 |[],i,T,_,j,_=>by
  show(gC j).f T=_;rw[if_neg (by simp only[Zs9];omega)]
 |v::l,i,T,h,j,hj=>by
  simp only[Zrs] at h;show(gC j).f (ofL l (Nat.succ i) ((sC i).f T v))=_;rw[Q4a hn l (Nat.succ i) _ (by omega) j hj,gC_sC (by omega) (by omega)];by_cases e:j=i
  . subst e;rw[if_neg (by omega),if_pos rfl,if_pos (by simp)];simp
  . by_cases c:i<=j/\j<i+(l.length+1)
    . rw[if_pos (by omega),if_pos (by simpa using c)];have:j-i=(j-Nat.succ i)+1:=by omega
      rw[this];rfl
    . rw[if_neg (by omega),if_neg e,if_neg (by simpa using c)]
theorem RT.args{n:Nat}(hn:n<=1056)(l:List V)(h:l.length<=n):RT n (ofL l 0 emp) (l++List.replicate (n-l.length) .bad):=by
 refine⟨by simp;omega,hn,fun i hi=>?_⟩;rw[Q4a hn l 0 emp (by omega) i hi];by_cases c:i<l.length
 . rw[if_pos (by omega)];simp[List.getD,Zsk c]
 . rw[if_neg (by omega),gC_emp i (by omega)];simp only[List.getD,Zsl (by omega:l.length<=i),List.getElem?_replicate];split<;>rfl
theorem RT.ofT{n:Nat}(hn:n<=1056)(l:List V)(h:l.length=n):RT n (ofL l 0 emp) l:=by have:=RT.args hn l (by omega);rwa[h,Zt5,List.replicate_zero,Zsp] at this
theorem Qn8{α:Type}(j:Nat)(a b c d:α):Qy5 j a b c d=if(j/2)%2=0 then(if j%2=0 then a else b) else(if j%2=0 then c else d):=by
 have h1:Nat.land j (nat_lit 1)=j%2:=Nat.and_one_is_mod j;have h2:Nat.land (Nat.shiftRight j (nat_lit 1)) (nat_lit 1)=(j/2)%2:=by have:Nat.shiftRight j 1=j/2:=rfl;show Nat.land (Nat.shiftRight j 1) 1=_;rw[this];exact Nat.and_one_is_mod _
 unfold Qy5;rw[h1,h2];have e:∀(m:Nat) (x y:α),Bool.rec (motive:=fun _=>α) x y (Nat.beq m (nat_lit 0))=if m=0 then y else x:=by intro m x y;cases m<;>rfl
 rw[e,e,e]
theorem Tr.get_node(o:Option O)(a b c d:Tr)(k:Nat):(Tr.node o a b c d).get k=match k with
 |0=>o
 |j+1=>Qy5 j (a.get) (b.get) (c.get) (d.get) (j/4):=by
 cases k with
 |zero=>rfl
 |succ j=>
  show Qy5 j a.get b.get c.get d.get (Nat.shiftRight j (nat_lit 2))=_;have hs:Nat.shiftRight j (nat_lit 2)=j/4:=by show Nat.shiftRight j 2=_;have:Nat.shiftRight j 2=j/2/2:=rfl;rw[this,Nat.div_div_eq_div_mul]
  rw[hs]
theorem Tr.on_get(t:Tr)(k:Nat):t.get k=t.on fun o a b c d=>(Tr.node o a b c d).get k:=by
 cases t with
 |nil=>
  show none=(Tr.node none .nil .nil .nil .nil).get k;rw[Tr.get_node];cases k with
  |zero=>rfl
  |succ j=>simp only[Qn8];repeat' split
           all_goals rfl
 |node o a b c d=>rfl
theorem Tr.get_set:∀(n:Nat) (t:Tr) (k:Nat) (o:O),k<n->∀k',(Tr.set n t k o).get k' =if k' =k then some o else t.get k'
 |0,_,_,_,h,_=>by omega
 |n+1,t,k,x,h,k' =>by
  have main:∀(o:Option O) (a b c d:Tr),(Nat.rec (motive:=fun _=>Tr) (.node (some x) a b c d)
   (fun j _=>Qy5 j (Tr.node o (Tr.set n a (Nat.shiftRight j (nat_lit 2)) x) b c d) (.node o a (Tr.set n b (Nat.shiftRight j (nat_lit 2)) x) c d) (.node o a b (Tr.set n c (Nat.shiftRight j (nat_lit 2)) x) d) (.node o a b c (Tr.set n d (Nat.shiftRight j (nat_lit 2)) x))) k:Tr).get k' =
     if k' =k then some x else(Tr.node o a b c d).get k' :=by
   intro o a b c d;cases k with
   |zero=>
    show(Tr.node (some x) a b c d).get k' =_;rw[Tr.get_node,Tr.get_node];cases k' with
    |zero=>rfl
    |succ j=>simp
   |succ j=>
    show(Qy5 j (Tr.node o (Tr.set n a (Nat.shiftRight j (nat_lit 2)) x) b c d) (.node o a (Tr.set n b (Nat.shiftRight j (nat_lit 2)) x) c d) (.node o a b (Tr.set n c (Nat.shiftRight j (nat_lit 2)) x) d) (.node o a b c (Tr.set n d (Nat.shiftRight j (nat_lit 2)) x))).get k' =_;have hs:Nat.shiftRight j (nat_lit 2)=j/4:=by show Nat.shiftRight j 2=_;have:Nat.shiftRight j 2=j/2/2:=rfl;rw[this,Nat.div_div_eq_div_mul]
    rw[hs];have hlt:j/4<n:=by omega
    have ih:=fun(t:Tr)=>Tr.get_set n t (j/4) x hlt;cases k' with
    |zero=>
     simp only[Qn8]
     repeat' split
     all_goals first|rfl|(exfalso;omega)|skip
     all_goals simp[Tr.get_node]
    |succ j' =>
     simp only[Qn8]
     (repeat' split)<;>(try simp only[Tr.get_node,Qn8])<;>(repeat' split)<;>(try simp only[ih])<;>(repeat' split)<;>first|rfl|(exfalso;omega)
  cases t with
  |nil=>
   exact(main none .nil .nil .nil .nil).trans (by rw[Tr.on_get .nil k'];rfl)
  |node o a b c d=>exact main o a b c d
def RH(F:FH)(H:Heap):Prop:=∃fr,H=[fr]/\(∀s,Bi fr s=F.tr.get s)/\Qgr fr=F.next
theorem Qxa:∀(fr:Frame) (s:Nat),Qgr fr<=s->Bi fr s=none
 |[],_,_=>rfl
 |(k,o)::r,s,h=>by
  simp only[Qgr] at h;simp only[Bi];rw[if_neg (by omega)];exact Qxa r s (by omega)
theorem RH.get{F:FH}{H:Heap}(h:RH F H):Xy F=Qd H:=by
 obtain⟨fr,rfl,h1,_⟩:=h;funext f s;cases f with
 |zero=>exact(h1 s).symm
 |succ f=>simp[Xy,Qd]
theorem RH.tr{F:FH}{H:Heap}(h:RH F H)(s:Nat):F.tr.get s=Qd H 0 s:=by rw[<-h.get];rfl
theorem RH.next{F:FH}{H:Heap}(h:RH F H):Q4 H=F.next:=by obtain⟨fr,rfl,_,h2⟩:=h;exact h2
theorem RH.fresh{F:FH}{H:Heap}(h:RH F H):F.tr.get F.next=none:=by obtain⟨fr,rfl,h1,h2⟩:=h;rw[<-h1,<-h2];exact Qxa fr _ (Zrf _)
theorem RH.set{F:FH}{H:Heap}(h:RH F H)(s:Nat)(o:O):RH (Qh7 F s o) (hset H 0 s o):=by
 obtain⟨fr,rfl,h1,h2⟩:=h;refine⟨Kf fr s o,rfl,fun s' =>?_,?_⟩
 . rw[Qcx,h1];exact(Tr.get_set (Nat.succ s) F.tr s o (Nat.lt_succ_self s) s').symm
 . rw[Qfs,h2];simp only[Qh7];cases e:Nat.ble (Nat.succ s) F.next with
   |true=>have:=Ztq e;simp only;omega
   |false=>
    have:¬Nat.succ s<=F.next:=fun h=>by rw[Zt6 h] at e;cases e
    simp only;omega
theorem RH.wr{F:FH}{H:Heap}(h:RH F H)(w:Option (Nat×Nat×O)):RH (wrF F w) (AM.wr H w):=by
 match w with
 |none=>exact h
 |some (0,s,o)=>exact h.set s o
 |some (f+1,s,o)=>
  obtain⟨fr,rfl,h1,h2⟩:=h;exact⟨fr,by simp[AM.wr,hset],h1,h2⟩
theorem RH.wrL:∀(ws:List (Nat×Nat×O)) {F:FH} {H:Heap},RH F H->RH (wrLF F ws) (BM.wrL H ws)
 |[],_,_,h=>h
 |(f,s,o)::r,F,H,h=>by
  have:=h.wr (some (f,s,o));exact RH.wrL r this
def RO(n:Nat):FO->Out->Prop
 | .no,_=>True
 | .nrm T F,o=>∃t H,o=some (.normal,t,H)/\RT n T t/\RH F H
 | .exi i T F,o=>∃t H,o=some (.exit i,t,H)/\RT n T t/\RH F H
 | .ret T F,o=>∃t H,o=some (.ret,t,H)/\RT n T t/\RH F H
 | .pan v T F,o=>∃t H,o=some (.panic v,t,H)/\RT n T t/\RH F H
def RR:FR->Option (Rt×Heap)->Prop
 | .no,_=>True
 | .ret v F,o=>∃H,o=some (.ret v,H)/\RH F H
 | .pan v F,o=>∃H,o=some (.pan v,H)/\RH F H
def RC(cc:FC)(C:Call):Prop:=∀f args F H,RH F H->RR (cc f args F) (C f args H)
def Sub{α:Type}(no x y:α):Prop:=x=no\/x=y
theorem Q5w(k:V->FO):Qkl none k= .no:=rfl
theorem Qlq:∀(l:List V) (i:Nat),Q14 l i=l[i]?
 |[],i=>rfl
 |x::l,0=>rfl
 |x::l,i+1=>by
  show Q14 l i=_;rw[Qlq l i];rfl
theorem Q3i:∀(l:List V) (i:Nat) (v:V),setV l i v=l.set i v
 |[],i,v=>rfl
 |x::l,0,v=>rfl
 |x::l,i+1,v=>by
  show x::setV l i v=_;rw[Q3i l i v];rfl
theorem Q0v(l:List V)(i:Nat)(v:V)(h:i<l.length):l.set i v=splice l i [v]:=by
 induction l generalizing i with
 |nil=>simp at h
 |cons x l ih=>
  cases i with
  |zero=>simp[splice]
  |succ i=>
   simp only[Zrs] at h;simp only[List.set_cons_succ,ih i (by omega),splice];simp
theorem Qlw{R:Type}(o:Option O)(k:List V->R)(e:R):Qon o k e=match o with
 |some (.cells xs)=>k xs
 |_=>e:=by
 cases o with
 |none=>rfl
 |some o=>cases o<;>rfl
theorem Qtn{R:Type}(v:V)(kp:Nat->Nat->Nat->R)(ki kr:List V->Nat->R)(e:R):vPtr v kp ki kr e=match v with
 | .ptr f s o=>kp f s o
 | .iptr cs o=>ki cs o
 | .rptr cs o=>kr cs o
 |_=>e:=by cases v<;>rfl
theorem Qu4{R:Type}(v:V)(k:IntKind->Int->R)(e:R):vInt v k e=match v with
 | .int a m=>k a m
 |_=>e:=by cases v<;>rfl
theorem Zeg{R:Type}(v:V)(k:List V->R)(e:R):vAgg v k e=match v with
 | .agg cs=>k cs
 |_=>e:=by cases v<;>rfl
theorem Zfb{R:Type}(v:V)(k:List V->R)(e:R):vTup v k e=match v with
 | .tuple cs=>k cs
 |_=>e:=by cases v<;>rfl
theorem Qxx{R:Type}(v:V)(a b e:R):vBool v a b e=match v with
 | .bool t=>if t then a else b
 |_=>e:=by
 cases v with
 |bool t=>cases t<;>rfl
 |_=>rfl
theorem Za7(a b:IntKind):Nat.beq (Q3l a) (Q3l b)=decide (a=b):=by cases a<;>cases b<;>rfl
theorem Qh0{R:Type}(m l:Int)(k:Nat->Nat->R)(e:R)(x:Int->Int->R)(h:∀a b:Nat,m=a->l=b->k a b=x m l)(he:e=x m l):Qsj m l k e=x m l:=by
 cases m with
 |ofNat a=>cases l with
  |ofNat b=>exact h a b rfl rfl
  |negSucc b=>exact he
 |negSucc a=>exact he
theorem Qot(k:IntKind)(m:Nat):Qw8 k m=k.wrap (m:Int):=by
 have hu:∀(n:Nat),(Int.ofNat (Nat.mod m n))=(m:Int)%(n:Int):=fun n=>(Int.natCast_emod m n);cases k with
 |i64=>
  show Bool.rec (motive:=fun _=>Int) (IntKind.i64.wrap (Int.ofNat m)) (Int.ofNat m) (Nat.ble m (nat_lit 9223372036854775807))=_;cases h:Nat.ble m (nat_lit 9223372036854775807) with
  |false=>rfl
  |true=>
   have h1:m<=9223372036854775807:=Ztq h;show(m:Int)=_;have e:(m:Int)%(2^64:Int)=m:=by omega
   simp only[IntKind.wrap,IntKind.bits,IntKind.signed,Zsy,e];rw[if_neg];simp only[decide_eq_true_eq];omega
 |u8=>exact hu 256
 |u16=>exact hu 65536
 |u32=>exact hu 4294967296
 |u64=>exact hu 18446744073709551616
 |i8=>rfl
 |i16=>rfl
 |i32=>rfl
theorem Zet(k:IntKind)(m l:Int):addI k m l=k.wrap (m+l):=by refine Qh0 m l _ _ (fun m l=>k.wrap (m+l)) ?_ rfl;rintro a b rfl rfl;rw[Qot];rfl
theorem Ze3(k:IntKind)(m l:Int):subI k m l=k.wrap (m-l):=by
 refine Qh0 m l _ _ (fun m l=>k.wrap (m-l)) ?_ rfl;rintro a b rfl rfl;cases h:Nat.ble b a with
 |false=>rfl
 |true=>
  have:=Ztq h;show Qw8 k (a-b)=_;rw[Qot];congr 1;omega
theorem Q8d(m l:Int):ltI m l=decide (m<l):=by
 refine Qh0 m l _ _ (fun m l=>decide (m<l)) ?_ rfl;rintro a b rfl rfl;cases h:Nat.ble (Nat.succ a) b with
 |true=>have:=Ztq h;symm;exact Zum (by omega)
 |false=>
  symm;apply Zun;intro e;have:Nat.ble (Nat.succ a) b=true:=Zt6 (by omega);rw[this] at h;cases h
theorem Za4(m l:Int):leI m l=decide (m<=l):=by
 refine Qh0 m l _ _ (fun m l=>decide (m<=l)) ?_ rfl;rintro a b rfl rfl;cases h:Nat.ble a b with
 |true=>have:=Ztq h;symm;exact Zum (by omega)
 |false=>
  symm;apply Zun;intro e;have:Nat.ble a b=true:=Zt6 (by omega);rw[this] at h;cases h
theorem Q9l(m l:Int):eqI m l=(m==l):=by
 have:(m==l)=decide (m=l):=by by_cases h:m=l<;>simp[h]
 rw[this];refine Qh0 m l _ _ (fun m l=>decide (m=l)) ?_ rfl;rintro a b rfl rfl;cases h:Nat.beq a b with
 |true=>have:=Zt7 h;symm;exact Zum (by omega)
 |false=>
  have:=Nat.ne_of_beq_eq_false h;symm;exact Zun (by omega)
theorem Q9j(k:IntKind)(m:Int):convI k m=k.wrap m:=by
 cases m with
 |ofNat a=>exact Qot k a
 |negSucc a=>rfl
section
variable {P : Program} {pol : Pol} {n : Nat}
theorem Qlp{o:Op}{dst:Option Nat}{cc:FC}{nm:Nat}{k:KT}{T:TM}{F:FH}{x:Option V}(h:evX P (Xy F) (fun x=>(cR n x).f T) nm o=Qpd x)
 (hm:x=none->J7 P (Xy F) (fun x=>(cR n x).f T) nm o=none):Qkl x (fun v=>k ((cP n dst).f T v) F)=(Bc P pol n dst o).f cc nm k T F:=by
 simp only[Bc,h,Qpd];cases x with
 |none=>simp only[Ztc,Qqc,hm rfl,Q5w]
 |some v=>rfl
theorem Qn2{o:Op}{g:Get}{r:Operand->V}{nm:Nat}(h:∀c,o≠ .call c)(h2:∀t x a b c,o≠ .slice t x a b c:=by simp):J7 P g r nm o=none:=by
 unfold J7;split
 . exact absurd rfl (h2 _ _ _ _ _)
 . rename_i c;exact absurd rfl (h c)
 . rfl
theorem Q84(dst:Option Nat)(x:Operand)(cc:FC)(nm:Nat)(k:KT)(T:TM)(F:FH):(Q9o n dst x).f cc nm k T F=(Bc P pol n dst (.move x)).f cc nm k T F:=rfl
theorem Q55(dst:Option Nat)(x:Operand)(cc:FC)(nm:Nat)(k:KT)(T:TM)(F:FH):(Q9o n dst x).f cc nm k T F=(Bc P pol n dst (.assign x)).f cc nm k T F:=rfl
theorem Za0(dst:Option Nat)(c a b:Operand)(cc:FC)(nm:Nat)(k:KT)(T:TM)(F:FH):(Za5 n dst c a b).f cc nm k T F=(Bc P pol n dst (.pick c a b)).f cc nm k T F:=by
 simp only[Za5,Qsz,Qxx,Bc,evX,Zbb];cases(cR n c).f T with
 |bool t=>cases t<;>rfl
 |_=>rfl
theorem Zee(dst:Option Nat)(x:Operand)(cc:FC)(nm:Nat)(k:KT)(T:TM)(F:FH):(cNil n dst x).f cc nm k T F=(Bc P pol n dst (.nilCheck x)).f cc nm k T F:=
 Qlp (x:=ncV ((cR n x).f T)) rfl (fun _=>rfl)
theorem Q8v(dst:Option Nat)(op:UnOp)(t:TypeId)(x:Operand)(cc:FC)(nm:Nat)(k:KT)(T:TM)(F:FH):(cUnOp n dst op x).f cc nm k T F=(Bc P pol n dst (.unOp op t x)).f cc nm k T F:=
 Qlp (x:=unV op ((cR n x).f T)) rfl (fun _=>rfl)
theorem Qbw(x y:V)(k:IntKind->Int->Int->Option V)(e:Option V)(h:∀a m l,x= .int a m->y= .int a l->k a m l=e)(h2:∀a b m l,x= .int a m->y= .int b l->a≠b->e=none):Qja x y k e=e:=by
 simp only[Qja,Qu4];cases x with
 |int a m=>
  cases y with
  |int b l=>
   simp only[Za7];by_cases c:a=b
   . subst c;simp only[decide_true];exact h a m l rfl rfl
   . simp only[c,decide_false];exact(h2 a b m l rfl rfl c).symm
  |_=>rfl
 |_=>rfl
theorem Zds(op:BinOp)(t:TypeId)(x y:Operand)(a b:V):(cBin P op t x y).f a b=Zp P op t x y a b:=by
 have no:∀(c d:IntKind) (m l:Int),a= .int c m->b= .int d l->c≠d->op≠ .shl->op≠ .shr->Zp P op t x y a b=none:=by rintro c d m l rfl rfl h h1 h2;cases op<;>first|exact absurd rfl h1|exact absurd rfl h2|simp[Zp,h]
 have yes:∀(c:IntKind) (m l:Int),a= .int c m->b= .int c l->op≠ .shl->op≠ .shr->Zp P op t x y a b=Qfa op c m l:=by rintro c m l rfl rfl h1 h2;cases op<;>first|exact absurd rfl h1|exact absurd rfl h2|simp[Zp]
 cases op<;>simp only[cBin]
 case add=>exact Qbw a b _ _ (fun c m l h1 h2=>by rw[yes c m l h1 h2 (by simp) (by simp),Zet];rfl) (fun c d m l h1 h2 h=>no c d m l h1 h2 h (by simp) (by simp))
 case sub=>exact Qbw a b _ _ (fun c m l h1 h2=>by rw[yes c m l h1 h2 (by simp) (by simp),Ze3];rfl) (fun c d m l h1 h2 h=>no c d m l h1 h2 h (by simp) (by simp))
 case eql=>exact Qbw a b _ _ (fun c m l h1 h2=>by rw[yes c m l h1 h2 (by simp) (by simp),Q9l];rfl) (fun c d m l h1 h2 h=>no c d m l h1 h2 h (by simp) (by simp))
 case neq=>exact Qbw a b _ _ (fun c m l h1 h2=>by rw[yes c m l h1 h2 (by simp) (by simp),Q9l];simp only[Qfa,bne];cases(m==l)<;>rfl) (fun c d m l h1 h2 h=>no c d m l h1 h2 h (by simp) (by simp))
 case lss=>exact Qbw a b _ _ (fun c m l h1 h2=>by rw[yes c m l h1 h2 (by simp) (by simp),Q8d];rfl) (fun c d m l h1 h2 h=>no c d m l h1 h2 h (by simp) (by simp))
 case leq=>exact Qbw a b _ _ (fun c m l h1 h2=>by rw[yes c m l h1 h2 (by simp) (by simp),Za4];rfl) (fun c d m l h1 h2 h=>no c d m l h1 h2 h (by simp) (by simp))
 case gtr=>exact Qbw a b _ _ (fun c m l h1 h2=>by rw[yes c m l h1 h2 (by simp) (by simp),Q8d];rfl) (fun c d m l h1 h2 h=>no c d m l h1 h2 h (by simp) (by simp))
 case geq=>exact Qbw a b _ _ (fun c m l h1 h2=>by rw[yes c m l h1 h2 (by simp) (by simp),Za4];rfl) (fun c d m l h1 h2 h=>no c d m l h1 h2 h (by simp) (by simp))
theorem Q7x(dst:Option Nat)(op:BinOp)(t u:TypeId)(x y:Operand)(cc:FC)(nm:Nat)(k:KT)(T:TM)(F:FH):(Q24 P n dst op t x y).f cc nm k T F=(Bc P pol n dst (.binOp op t x y u)).f cc nm k T F:=by simp only[Q24,Zds];exact Qlp (x:=Zp P op t x y ((cR n x).f T) ((cR n y).f T)) rfl (fun _=>rfl)
theorem Qwo(dst:Option Nat)(t:Operand)(i:Nat)(cc:FC)(nm:Nat)(k:KT)(T:TM)(F:FH):(Qx1 n dst t i).f cc nm k T F=(Bc P pol n dst (.extract t i)).f cc nm k T F:=by
 refine Qlp (x:=tupO ((cR n t).f T) i) ?_ (fun _=>rfl);simp only[evX,Qp2,tupO,Zfb,Qpd];cases(cR n t).f T with
 |tuple vs=>simp only[Qlq]
 |_=>rfl
theorem Q6f(chk:Bool)(dst:Option Nat)(t:TypeId)(cc:FC)(nm:Nat)(k:KT)(T:TM)(F:FH)(hf:chk=false->F.tr.get nm=none):
 (Q0l P n chk dst t).f cc nm k T F=(Bc P pol n dst (.alloc t)).f cc nm k T F:=by
 simp only[Q0l,Bc,evX,Q0w];cases zeroCells P t with
 |none=>rfl
 |some z=>
  simp only[Zrr,new,newK,Xy];cases chk with
  |false=>
   have:=hf rfl;simp only[this];rfl
  |true=>
   cases h:F.tr.get nm with
   |none=>rfl
   |some o=>rfl
theorem Qyv(t:TypeId)(xs:List V)(o:Nat):(Qyj P t).f xs o=Qn P t xs o:=by
 simp only[Qyj,Qn];cases P.underlying t with
 |none=>rfl
 |some dd=>
  cases sz P t with
  |none=>rfl
  |some m=>
   simp only;cases Qk1 dd with
   |false=>simp only[cond_false,Qlq,Zre,if_false]
   |true=>
    simp only[cond_true,if_true];by_cases h:o+m<=xs.length
    . rw[if_pos h,Zt6 h];rfl
    . have:Nat.ble (o+m) xs.length=false:=by
       rw[Zt3];intro e;exact h (Ztq e)
      rw[if_neg h,this];rfl
theorem Q8x(dst:Option Nat)(t:TypeId)(a:Operand)(cc:FC)(nm:Nat)(k:KT)(T:TM)(F:FH):(Q9n P n dst t a).f cc nm k T F=(Bc P pol n dst (.load t a)).f cc nm k T F:=by
 simp only[Q9n,loadK,Qtn,Qlw,Bc,evX,Q79,Qn2 (P:=P) (o:= .load t a) (by simp),Qyv];cases(cR n a).f T with
 |ptr f s o=>
  simp only;cases Xy F f s with
  |none=>rfl
  |some q=>
   cases q with
   |cells xs=>
    simp only;cases Qn P t xs o<;>rfl
   |_=>rfl
 |iptr cs o=>simp only;cases Qn P t cs o<;>rfl
 |rptr cs o=>simp only;cases Qn P t cs o<;>rfl
 |_=>rfl
theorem Qgh{α:Type}(x y:α)(b:Bool):Bool.rec (motive:=fun _=>α) x y b=if b then y else x:=by cases b<;>rfl
theorem Q6e{R:Type}(v:V)(k1:R)(kc:List V->R)(e:R):Q9z v k1 kc e=match v with
 | .agg cs=>if cs.all V.scalar then kc cs else e
 | .bad| .tuple _=>e
 |_=>k1:=by
 cases v with
 |agg cs=>exact Qgh _ _ _
 |_=>rfl
theorem Q5b(dst:Option Nat)(t:TypeId)(a x:Operand)(cc:FC)(nm:Nat)(k:KT)(T:TM)(F:FH):(Q0s P n dst t a x).f cc nm k T F=(Bc P pol n dst (.store t a x)).f cc nm k T F:=by
 simp only[Q0s,Bc,evX,Q0h,Qn2 (P:=P) (o:= .store t a x) (by simp)];cases sz P t with
 |none=>
  simp only;cases(cR n a).f T with
  |ptr f s o=>cases((cR n x).f T).cells<;>rfl
  |_=>rfl
 |some m=>
  simp only[Zbj,Qtn];cases(cR n a).f T with
  |ptr f s o=>
   simp only[Q6e];have one:∀v:V,v.cells=some [v]->(Qon (Xy F f s) (fun xs=>Bool.rec (motive:=fun _=>FO) .no (Option.rec (motive:=fun _=>FO) .no (fun _=>k ((cP n dst).f T .bad) (wrF F (some (f,s,.cells (setV xs o v))))) (Q14 xs o)) (Nat.beq m (nat_lit 1))) .no)=
    Qqc pol (match V.ptr f s o,v.cells,some m with
     | .ptr f s o,some cs,some n=>(match Xy F f s with
       |some (.cells xs)=>if cs.length=n/\o+n<=xs.length then some (.val .bad (some (f,s,.cells (splice xs o cs)))) else none
       |_=>none)
     |_,_,_=>none) none cc (fun v F=>k ((cP n dst).f T v) F) T F:=by
    intro v hv;simp only[hv,Qlw];cases Xy F f s with
    |none=>rfl
    |some q=>
     cases q with
     |cells xs=>
      simp only[Qgh,Qlq,Q3i];by_cases h:m=1
      . subst h;by_cases h2:o<xs.length
        . rw[Zra h2,if_pos (show Nat.beq 1 1=true from rfl),if_pos ⟨rfl,h2⟩,Q0v _ _ _ h2];rfl
        . rw[Zrd (by omega),if_pos (show Nat.beq 1 1=true from rfl),if_neg (fun e=>h2 e.2)];rfl
      . have:Nat.beq m 1=false:=by rw[Zt3];intro e;exact h (Zt7 e)
        show(if Nat.beq m 1=true then _ else FO.no)=_;rw[this,if_neg (by simp),if_neg (fun e=>h (by simpa using e.1.symm))];rfl
     |_=>rfl
   cases(cR n x).f T with
   |bad=>rfl
   |tuple l=>rfl
   |agg cs=>
    simp only[V.cells];by_cases hs:cs.all V.scalar
    . simp only[hs,if_true,Qlw];cases Xy F f s with
      |none=>rfl
      |some q=>
       cases q with
       |cells xs=>
        simp only[Qgh];by_cases h:cs.length=m
        . have e:Nat.beq cs.length m=true:=by rw[h];exact Nat.beq_refl m
          by_cases h2:o+m<=xs.length
          . have e2:Nat.ble (Nat.add o m) xs.length=true:=Zt6 h2;rw[e,e2,if_pos rfl,if_pos rfl,if_pos ⟨h,h2⟩];rfl
          . have e2:Nat.ble (Nat.add o m) xs.length=false:=by rw[Zt3];intro q;exact h2 (Ztq q)
            rw[e,e2,if_pos rfl,if_neg (by simp),if_neg (fun q=>h2 q.2)];rfl
        . have e:Nat.beq cs.length m=false:=by rw[Zt3];intro q;exact h (Zt7 q)
          rw[e,if_neg (by simp),if_neg (fun q=>h q.1)];rfl
       |_=>rfl
    . simp only[hs,if_false,Zre];rfl
   |_=>exact one _ rfl
  |_=>rfl
theorem Qrr(dst:Option Nat)(t:TypeId)(x:Operand)(i:Nat)(cc:FC)(nm:Nat)(k:KT)(T:TM)(F:FH):(Qkg P n dst t x i).f cc nm k T F=(Bc P pol n dst (.fieldAddr t x i)).f cc nm k T F:=by
 simp only[Qkg,Bc,evX,Qjx,Qn2 (P:=P) (o:= .fieldAddr t x i) (by simp)];cases P.underlying t with
 |none=>rfl
 |some dd=>
  cases dd with
  |struct fs=>
   simp only;cases fs[i]? with
   |none=>rfl
   |some f=>
    simp only;cases sz P f.type with
    |none=>rfl
    |some m=>
     simp only;by_cases h:m=0
     . subst h;rfl
     . have e:Nat.beq m 0=false:=by rw[Zt3];intro q;exact h (Zt7 q)
       rw[e,if_neg h];simp only[cond_false,offV,Qtn];cases(cR n x).f T<;>rfl
  |_=>rfl
theorem Za9(t:TypeId)(xs:List V)(o:Nat):(Q9v P t).f xs o=Qar P t xs o:=by
 simp only[Q9v,Qar];cases P.underlying t with
 |none=>rfl
 |some dd=>
  cases sz P t with
  |none=>rfl
  |some m=>
   simp only;cases Qk1 dd with
   |false=>simp only[cond_false,Qlq,Zre,if_false]
   |true=>rfl
theorem Q5y(dst:Option Nat)(t:TypeId)(x:Operand)(i:Nat)(cc:FC)(nm:Nat)(k:KT)(T:TM)(F:FH):(Q1o P n dst t x i).f cc nm k T F=(Bc P pol n dst (.field t x i)).f cc nm k T F:=by
 simp only[Q1o,Bc,evX,Q0t,Qn2 (P:=P) (o:= .field t x i) (by simp)];cases P.underlying t with
 |none=>rfl
 |some dd=>
  cases dd with
  |struct fs=>
   simp only;cases hf:fs[i]? with
   |none=>
    simp only;cases(cR n x).f T<;>first|rfl|(simp only[hf];rfl)
   |some f=>
    simp only[aggO,Zeg,Za9];cases(cR n x).f T with
    |agg cs=>
     simp only[hf];cases Qar P f.type cs f.offset<;>rfl
    |_=>rfl
  |_=>rfl
end
end Go.AM.BM
end
