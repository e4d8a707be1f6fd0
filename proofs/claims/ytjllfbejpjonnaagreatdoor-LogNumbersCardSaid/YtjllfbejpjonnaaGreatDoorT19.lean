/- This file holds in one the texts Bf3, Bf4, Bf5, Bf6; each says at its head what it proves. -/
import Derived.Test.YtjllfbejpjonnaaGreatDoorT13
import Derived.Test.YtjllfbejpjonnaaGreatDoorT17
set_option linter.unusedSimpArgs false
set_option linter.unusedVariables false
section
namespace Go.AM.BM
def NV.toL(t:NV):List V:=[t.x0,t.x1,t.x2,t.x3,t.x4,t.x5,t.x6,t.x7,t.x8,t.x9,t.x10,t.x11,t.x12,t.x13,t.x14,t.x15,t.x16,t.x17,t.x18,t.x19,t.x20,t.x21,t.x22,t.x23,t.x24,t.x25,t.x26,t.x27,t.x28,t.x29,t.x30,t.x31]
def NN.toL(t:NN):List NV:=[t.x0,t.x1,t.x2,t.x3,t.x4,t.x5,t.x6,t.x7,t.x8,t.x9,t.x10,t.x11,t.x12,t.x13,t.x14,t.x15,t.x16,t.x17,t.x18,t.x19,t.x20,t.x21,t.x22,t.x23,t.x24,t.x25,t.x26,t.x27,t.x28,t.x29,t.x30,t.x31]
theorem Zcz(d:Box (NV->V))(t:NV):∀i,i<32->(selV.getD i d).f t=t.toL.getD i .bad
 |0,_=>rfl
 |1,_=>rfl
 |2,_=>rfl
 |3,_=>rfl
 |4,_=>rfl
 |5,_=>rfl
 |6,_=>rfl
 |7,_=>rfl
 |8,_=>rfl
 |9,_=>rfl
 |10,_=>rfl
 |11,_=>rfl
 |12,_=>rfl
 |13,_=>rfl
 |14,_=>rfl
 |15,_=>rfl
 |16,_=>rfl
 |17,_=>rfl
 |18,_=>rfl
 |19,_=>rfl
 |20,_=>rfl
 |21,_=>rfl
 |22,_=>rfl
 |23,_=>rfl
 |24,_=>rfl
 |25,_=>rfl
 |26,_=>rfl
 |27,_=>rfl
 |28,_=>rfl
 |29,_=>rfl
 |30,_=>rfl
 |31,_=>rfl
 |i+32,h=>by omega
theorem Zef(d:Box (NV->V->NV))(t:NV)(v:V):∀i,i<32->((updV.getD i d).f t v).toL=t.toL.set i v
 |0,_=>rfl
 |1,_=>rfl
 |2,_=>rfl
 |3,_=>rfl
 |4,_=>rfl
 |5,_=>rfl
 |6,_=>rfl
 |7,_=>rfl
 |8,_=>rfl
 |9,_=>rfl
 |10,_=>rfl
 |11,_=>rfl
 |12,_=>rfl
 |13,_=>rfl
 |14,_=>rfl
 |15,_=>rfl
 |16,_=>rfl
 |17,_=>rfl
 |18,_=>rfl
 |19,_=>rfl
 |20,_=>rfl
 |21,_=>rfl
 |22,_=>rfl
 |23,_=>rfl
 |24,_=>rfl
 |25,_=>rfl
 |26,_=>rfl
 |27,_=>rfl
 |28,_=>rfl
 |29,_=>rfl
 |30,_=>rfl
 |31,_=>rfl
 |i+32,h=>by omega
theorem Q3a(d:Box (NN->NV))(e:NV)(t:NN):∀i,i<32->(selN.getD i d).f t=t.toL.getD i e
 |0,_=>rfl
 |1,_=>rfl
 |2,_=>rfl
 |3,_=>rfl
 |4,_=>rfl
 |5,_=>rfl
 |6,_=>rfl
 |7,_=>rfl
 |8,_=>rfl
 |9,_=>rfl
 |10,_=>rfl
 |11,_=>rfl
 |12,_=>rfl
 |13,_=>rfl
 |14,_=>rfl
 |15,_=>rfl
 |16,_=>rfl
 |17,_=>rfl
 |18,_=>rfl
 |19,_=>rfl
 |20,_=>rfl
 |21,_=>rfl
 |22,_=>rfl
 |23,_=>rfl
 |24,_=>rfl
 |25,_=>rfl
 |26,_=>rfl
 |27,_=>rfl
 |28,_=>rfl
 |29,_=>rfl
 |30,_=>rfl
 |31,_=>rfl
 |i+32,h=>by omega
theorem Zcg(d:Box (NN->NV->NN))(t:NN)(v:NV):∀i,i<32->((updN.getD i d).f t v).toL=t.toL.set i v
 |0,_=>rfl
 |1,_=>rfl
 |2,_=>rfl
 |3,_=>rfl
 |4,_=>rfl
 |5,_=>rfl
 |6,_=>rfl
 |7,_=>rfl
 |8,_=>rfl
 |9,_=>rfl
 |10,_=>rfl
 |11,_=>rfl
 |12,_=>rfl
 |13,_=>rfl
 |14,_=>rfl
 |15,_=>rfl
 |16,_=>rfl
 |17,_=>rfl
 |18,_=>rfl
 |19,_=>rfl
 |20,_=>rfl
 |21,_=>rfl
 |22,_=>rfl
 |23,_=>rfl
 |24,_=>rfl
 |25,_=>rfl
 |26,_=>rfl
 |27,_=>rfl
 |28,_=>rfl
 |29,_=>rfl
 |30,_=>rfl
 |31,_=>rfl
 |i+32,h=>by omega
theorem Zck(d:Box (TM->V))(t:TM):∀i,i<32->(selA.getD i d).f t=t.a.toL.getD i .bad
 |0,_=>rfl
 |1,_=>rfl
 |2,_=>rfl
 |3,_=>rfl
 |4,_=>rfl
 |5,_=>rfl
 |6,_=>rfl
 |7,_=>rfl
 |8,_=>rfl
 |9,_=>rfl
 |10,_=>rfl
 |11,_=>rfl
 |12,_=>rfl
 |13,_=>rfl
 |14,_=>rfl
 |15,_=>rfl
 |16,_=>rfl
 |17,_=>rfl
 |18,_=>rfl
 |19,_=>rfl
 |20,_=>rfl
 |21,_=>rfl
 |22,_=>rfl
 |23,_=>rfl
 |24,_=>rfl
 |25,_=>rfl
 |26,_=>rfl
 |27,_=>rfl
 |28,_=>rfl
 |29,_=>rfl
 |30,_=>rfl
 |31,_=>rfl
 |i+32,h=>by omega
theorem Zd0(d:Box (TM->V->TM))(t:TM)(v:V):∀i,i<32->((updA.getD i d).f t v).a.toL=t.a.toL.set i v
 |0,_=>rfl
 |1,_=>rfl
 |2,_=>rfl
 |3,_=>rfl
 |4,_=>rfl
 |5,_=>rfl
 |6,_=>rfl
 |7,_=>rfl
 |8,_=>rfl
 |9,_=>rfl
 |10,_=>rfl
 |11,_=>rfl
 |12,_=>rfl
 |13,_=>rfl
 |14,_=>rfl
 |15,_=>rfl
 |16,_=>rfl
 |17,_=>rfl
 |18,_=>rfl
 |19,_=>rfl
 |20,_=>rfl
 |21,_=>rfl
 |22,_=>rfl
 |23,_=>rfl
 |24,_=>rfl
 |25,_=>rfl
 |26,_=>rfl
 |27,_=>rfl
 |28,_=>rfl
 |29,_=>rfl
 |30,_=>rfl
 |31,_=>rfl
 |i+32,h=>by omega
theorem updA_b(d:Box (TM->V->TM))(t:TM)(v:V):∀i,i<32->((updA.getD i d).f t v).b=t.b
 |0,_=>rfl
 |1,_=>rfl
 |2,_=>rfl
 |3,_=>rfl
 |4,_=>rfl
 |5,_=>rfl
 |6,_=>rfl
 |7,_=>rfl
 |8,_=>rfl
 |9,_=>rfl
 |10,_=>rfl
 |11,_=>rfl
 |12,_=>rfl
 |13,_=>rfl
 |14,_=>rfl
 |15,_=>rfl
 |16,_=>rfl
 |17,_=>rfl
 |18,_=>rfl
 |19,_=>rfl
 |20,_=>rfl
 |21,_=>rfl
 |22,_=>rfl
 |23,_=>rfl
 |24,_=>rfl
 |25,_=>rfl
 |26,_=>rfl
 |27,_=>rfl
 |28,_=>rfl
 |29,_=>rfl
 |30,_=>rfl
 |31,_=>rfl
 |i+32,h=>by omega
theorem Qys{i:Nat}(h:i<32)(T:TM):(gC i).f T=T.a.toL.getD i .bad:=by
 have:Nat.blt i 32=true:=by rw[Nat.blt_eq];exact h
 simp only[gC,this,cond_true];exact Zck _ T i h
theorem Qzh{i:Nat}(h:¬i<32)(h2:i<1056)(T:TM):(gC i).f T=(T.b.toL.getD ((i-32)/32) Xr).toL.getD ((i-32)%32) .bad:=by
 have:Nat.blt i 32=false:=by rw[Zqu];intro e;rw[Nat.blt_eq] at e;exact h e
 simp only[gC,this,cond_false];rw[Q3a _ Xr _ _ (by omega),Zcz _ _ _ (by omega)]
theorem sC_hi{i:Nat}(h:¬i<32)(T:TM)(v:V):(sC i).f T v=⟨T.a,(updN.getD ((i-32)/32) ⟨fun t _=>t⟩).f T.b ((updV.getD ((i-32)%32) ⟨fun t _=>t⟩).f ((selN.getD ((i-32)/32) ⟨fun t=>t.x0⟩).f T.b) v)⟩:=by
 have:Nat.blt i 32=false:=by rw[Zqu];intro e;rw[Nat.blt_eq] at e;exact h e
 simp only[sC,this,cond_false]
theorem sC_lo{i:Nat}(h:i<32)(T:TM)(v:V):(sC i).f T v=(updA.getD i ⟨fun t _=>t⟩).f T v:=by
 have:Nat.blt i 32=true:=by rw[Nat.blt_eq];exact h
 simp only[sC,this,cond_true]
theorem NV.toL_length(t:NV):t.toL.length=32:=rfl
theorem NN.toL_length(t:NN):t.toL.length=32:=rfl
theorem Qlc{α:Type}(l:List α)(i j:Nat)(v d:α)(hi:i<l.length):(l.set i v).getD j d=if j=i then v else l.getD j d:=by
 simp only[List.getD,Zqd];by_cases e:i=j
 . subst e;simp[hi]
 . rw[if_neg e,if_neg (Ne.symm e)]
theorem gC_sC{i j:Nat}(hi:i<1056)(hj:j<1056)(T:TM)(v:V):(gC j).f ((sC i).f T v)=if j=i then v else(gC j).f T:=by
 by_cases a:i<32
 . rw[sC_lo a];by_cases b:j<32
   . rw[Qys b,Qys b,Zd0 _ _ _ _ a,Qlc _ _ _ _ _ (by rw[NV.toL_length];exact a)]
   . rw[Qzh b hj,Qzh b hj,updA_b _ _ _ _ a,if_neg (by omega)]
 . rw[sC_hi a];by_cases b:j<32
   . rw[Qys b,Qys b,if_neg (by omega)]
   . rw[Qzh b hj,Qzh b hj,Zcg _ _ _ _ (by omega),Qlc _ _ _ _ _ (by rw[NN.toL_length];omega)];by_cases e:(j-32)/32=(i-32)/32
     . rw[if_pos e,Zef _ _ _ _ (by omega),Qlc _ _ _ _ _ (by rw[NV.toL_length];omega),Q3a _ Xr _ _ (by omega),e];by_cases e2:(j-32)%32=(i-32)%32
       . rw[if_pos e2,if_pos (by omega)]
       . rw[if_neg e2,if_neg (by omega)]
     . rw[if_neg e,if_neg (by omega)]
structure RT(n:Nat)(T:TM)(t:List V):Prop where
 len:t.length=n
 le:n<=1056
 get:∀i,i<n->(gC i).f T=t.getD i .bad
theorem Qpo{α:Type}(n i:Nat)(x:α):(List.replicate n x).getD i x=x:=by simp only[List.getD,List.getElem?_replicate];split<;>rfl
theorem gC_emp(i:Nat)(h:i<1056):(gC i).f emp= .bad:=by
 have e2:Xr.toL=List.replicate 32 .bad:=rfl;by_cases a:i<32
 . rw[Qys a];show Xr.toL.getD i .bad= .bad;rw[e2,Qpo]
 . rw[Qzh a h];have e:emp.b.toL=List.replicate 32 Xr:=rfl;rw[e,Qpo,e2,Qpo]
theorem RT.put{n:Nat}{T:TM}{t:List V}(R:RT n T t)(dst:Option Nat)(v:V):RT n ((cP n dst).f T v) (Q1 t dst v):=by
 cases dst with
 |none=>exact R
 |some i=>
  simp only[cP,Q1];by_cases h:i<n
  . have hb:Nat.blt i n=true:=by rw[Nat.blt_eq];exact h
    rw[hb];refine⟨by rw[Zql];exact R.len,R.le,fun j hj=>?_⟩;have hn:=R.le;simp only[cond_true];rw[gC_sC (by omega) (by omega),Qlc _ _ _ _ _ (by rw[R.len];exact h),R.get j hj]
  . have hb:Nat.blt i n=false:=by rw[Zqu];intro e;rw[Nat.blt_eq] at e;exact h e
    rw[hb];rw[List.set_eq_of_length_le (by rw[R.len];omega)];exact R
theorem RT.rho{n:Nat}{T:TM}{t:List V}(R:RT n T t)(x:Operand):(cR n x).f T=AM.rho t x:=by
 cases x with
 |tmp i=>
  simp only[cR,AM.rho];by_cases h:i<n
  . have hb:Nat.blt i n=true:=by rw[Nat.blt_eq];exact h
    rw[hb];exact R.get i h
  . have hb:Nat.blt i n=false:=by rw[Zqu];intro e;rw[Nat.blt_eq] at e;exact h e
    have h' :n<=i:=Nat.le_of_not_lt h;rw[hb];simp only[cond_false,List.getD];rw[Zn4 (by rw[R.len];exact h')];rfl
 |const v=>rfl
 |global g=>rfl
 |func f=>rfl
theorem RT.rhoF{n:Nat}{T:TM}{t:List V}(R:RT n T t):(fun x=>(cR n x).f T)=AM.rho t:=funext R.rho
theorem Qti(n:Nat)(T:TM):∀l:List Operand,(cL n l).f T=l.map fun x=>(cR n x).f T
 |[]=>rfl
 |x::l=>by
  have:=Qti n T l;show(cR n x).f T::(cL n l).f T=_;rw[this];rfl
theorem toL_eq{n:Nat}{T:TM}{t:List V}(R:RT n T t):toL T n 0=t:=by
 have:∀m i,toL T m i=(List.range' i m).map fun j=>(gC j).f T:=by
  intro m
  induction m with
  |zero=>intro i;rfl
  |succ m ih=>
   intro i;show(gC i).f T::toL T m (Nat.succ i)=_;rw[ih];simp[Zp2]
 rw[this];apply Zpi;intro i;by_cases h:i<n
 . simp only[Zqv,List.getElem?_range' h,Zn2,Zod,Nat.one_mul];rw[R.get i h,List.getD,Zn1 (by rw[R.len];exact h)];rfl
 . rw[Zn4 (by simp;omega),Zn4 (by rw[R.len];omega)]
theorem Q35{n:Nat}(hn:n<=1056):∀(l:List V) (i:Nat) (T:TM),i+l.length<=n->∀j,j<n->(gC j).f (ofL l i T)=if i<=j/\j<i+l.length then l.getD (j-i) .bad else(gC j).f T
 |[],i,T,_,j,_=>by
  show(gC j).f T=_;rw[if_neg (by simp only[Zpt];omega)]
 |v::l,i,T,h,j,hj=>by
  simp only[Zp9] at h;show(gC j).f (ofL l (Nat.succ i) ((sC i).f T v))=_;rw[Q35 hn l (Nat.succ i) _ (by omega) j hj,gC_sC (by omega) (by omega)];by_cases e:j=i
  . subst e;rw[if_neg (by omega),if_pos rfl,if_pos (by simp)];simp
  . by_cases c:i<=j/\j<i+(l.length+1)
    . rw[if_pos (by omega),if_pos (by simpa using c)];have:j-i=(j-Nat.succ i)+1:=by omega
      rw[this];rfl
    . rw[if_neg (by omega),if_neg e,if_neg (by simpa using c)]
theorem RT.args{n:Nat}(hn:n<=1056)(l:List V)(h:l.length<=n):RT n (ofL l 0 emp) (l++List.replicate (n-l.length) .bad):=by
 refine⟨by simp;omega,hn,fun i hi=>?_⟩;rw[Q35 hn l 0 emp (by omega) i hi];by_cases c:i<l.length
 . rw[if_pos (by omega)];simp[List.getD,Zoo c]
 . rw[if_neg (by omega),gC_emp i (by omega)];simp only[List.getD,Zop (by omega:l.length<=i),List.getElem?_replicate];split<;>rfl
theorem RT.ofT{n:Nat}(hn:n<=1056)(l:List V)(h:l.length=n):RT n (ofL l 0 emp) l:=by have:=RT.args hn l (by omega);rwa[h,Nat.sub_self,List.replicate_zero,Zou] at this
theorem Qod{α:Type}(j:Nat)(a b c d:α):Qza j a b c d=if(j/2)%2=0 then(if j%2=0 then a else b) else(if j%2=0 then c else d):=by
 have h1:Nat.land j (nat_lit 1)=j%2:=Nat.and_one_is_mod j;have h2:Nat.land (Nat.shiftRight j (nat_lit 1)) (nat_lit 1)=(j/2)%2:=by have:Nat.shiftRight j 1=j/2:=rfl;show Nat.land (Nat.shiftRight j 1) 1=_;rw[this];exact Nat.and_one_is_mod _
 unfold Qza;rw[h1,h2];have e:∀(m:Nat) (x y:α),Bool.rec (motive:=fun _=>α) x y (Nat.beq m (nat_lit 0))=if m=0 then y else x:=by intro m x y;cases m<;>rfl
 rw[e,e,e]
theorem Tr.get_node(o:Option O)(a b c d:Tr)(k:Nat):(Tr.node o a b c d).get k=match k with
 |0=>o
 |j+1=>Qza j (a.get) (b.get) (c.get) (d.get) (j/4):=by
 cases k with
 |zero=>rfl
 |succ j=>
  show Qza j a.get b.get c.get d.get (Nat.shiftRight j (nat_lit 2))=_;have hs:Nat.shiftRight j (nat_lit 2)=j/4:=by show Nat.shiftRight j 2=_;have:Nat.shiftRight j 2=j/2/2:=rfl;rw[this,Nat.div_div_eq_div_mul]
  rw[hs]
theorem Tr.on_get(t:Tr)(k:Nat):t.get k=t.on fun o a b c d=>(Tr.node o a b c d).get k:=by
 cases t with
 |nil=>
  show none=(Tr.node none .nil .nil .nil .nil).get k;rw[Tr.get_node];cases k with
  |zero=>rfl
  |succ j=>simp only[Qod];repeat' split
           all_goals rfl
 |node o a b c d=>rfl
theorem Tr.get_set:∀(n:Nat) (t:Tr) (k:Nat) (o:O),k<n->∀k',(Tr.set n t k o).get k' =if k' =k then some o else t.get k'
 |0,_,_,_,h,_=>by omega
 |n+1,t,k,x,h,k' =>by
  have main:∀(o:Option O) (a b c d:Tr),(Nat.rec (motive:=fun _=>Tr) (.node (some x) a b c d)
   (fun j _=>Qza j (Tr.node o (Tr.set n a (Nat.shiftRight j (nat_lit 2)) x) b c d) (.node o a (Tr.set n b (Nat.shiftRight j (nat_lit 2)) x) c d) (.node o a b (Tr.set n c (Nat.shiftRight j (nat_lit 2)) x) d) (.node o a b c (Tr.set n d (Nat.shiftRight j (nat_lit 2)) x))) k:Tr).get k' =
     if k' =k then some x else(Tr.node o a b c d).get k' :=by
   intro o a b c d;cases k with
   |zero=>
    show(Tr.node (some x) a b c d).get k' =_;rw[Tr.get_node,Tr.get_node];cases k' with
    |zero=>rfl
    |succ j=>simp
   |succ j=>
    show(Qza j (Tr.node o (Tr.set n a (Nat.shiftRight j (nat_lit 2)) x) b c d) (.node o a (Tr.set n b (Nat.shiftRight j (nat_lit 2)) x) c d) (.node o a b (Tr.set n c (Nat.shiftRight j (nat_lit 2)) x) d) (.node o a b c (Tr.set n d (Nat.shiftRight j (nat_lit 2)) x))).get k' =_;have hs:Nat.shiftRight j (nat_lit 2)=j/4:=by show Nat.shiftRight j 2=_;have:Nat.shiftRight j 2=j/2/2:=rfl;rw[this,Nat.div_div_eq_div_mul]
    rw[hs];have hlt:j/4<n:=by omega
    have ih:=fun(t:Tr)=>Tr.get_set n t (j/4) x hlt;cases k' with
    |zero=>
     simp only[Qod]
     repeat' split
     all_goals first|rfl|(exfalso;omega)|skip
     all_goals simp[Tr.get_node]
    |succ j' =>
     simp only[Qod]
     (repeat' split)<;>(try simp only[Tr.get_node,Qod])<;>(repeat' split)<;>(try simp only[ih])<;>(repeat' split)<;>first|rfl|(exfalso;omega)
  cases t with
  |nil=>
   exact(main none .nil .nil .nil .nil).trans (by rw[Tr.on_get .nil k'];rfl)
  |node o a b c d=>exact main o a b c d
def RH(F:FH)(H:Heap):Prop:=∃fr,H=[fr]/\(∀s,Xx fr s=F.tr.get s)/\Qht fr=F.next
theorem Qxq:∀(fr:Frame) (s:Nat),Qht fr<=s->Xx fr s=none
 |[],_,_=>rfl
 |(k,o)::r,s,h=>by
  simp only[Qht] at h;simp only[Xx];rw[if_neg (by omega)];exact Qxq r s (by omega)
theorem RH.get{F:FH}{H:Heap}(h:RH F H):Xz F=Qd H:=by
 obtain⟨fr,rfl,h1,_⟩:=h;funext f s;cases f with
 |zero=>exact(h1 s).symm
 |succ f=>simp[Xz,Qd]
theorem RH.tr{F:FH}{H:Heap}(h:RH F H)(s:Nat):F.tr.get s=Qd H 0 s:=by rw[<-h.get];rfl
theorem RH.next{F:FH}{H:Heap}(h:RH F H):Zc H=F.next:=by obtain⟨fr,rfl,_,h2⟩:=h;exact h2
theorem RH.fresh{F:FH}{H:Heap}(h:RH F H):F.tr.get F.next=none:=by obtain⟨fr,rfl,h1,h2⟩:=h;rw[<-h1,<-h2];exact Qxq fr _ (Zn6 _)
theorem RH.set{F:FH}{H:Heap}(h:RH F H)(s:Nat)(o:O):RH (Qgz F s o) (hset H 0 s o):=by
 obtain⟨fr,rfl,h1,h2⟩:=h;refine⟨Kq fr s o,rfl,fun s' =>?_,?_⟩
 . rw[Qcy,h1];exact(Tr.get_set (Nat.succ s) F.tr s o (Nat.lt_succ_self s) s').symm
 . rw[Qfx,h2];simp only[Qgz];cases e:Nat.ble (Nat.succ s) F.next with
   |true=>have:=Zqa e;simp only;omega
   |false=>
    have:¬Nat.succ s<=F.next:=fun h=>by rw[Zqw h] at e;cases e
    simp only;omega
theorem RH.wr{F:FH}{H:Heap}(h:RH F H)(w:Option (Nat×Nat×O)):RH (wrF F w) (AM.wr H w):=by
 match w with
 |none=>exact h
 |some (0,s,o)=>exact h.set s o
 |some (f+1,s,o)=>
  obtain⟨fr,rfl,h1,h2⟩:=h;exact⟨fr,by simp[AM.wr,hset],h1,h2⟩
theorem RH.wrL:∀(ws:List (Nat×Nat×O)) {F:FH} {H:Heap},RH F H->RH (wrLF F ws) (BM.wrL H ws)
 |[],_,_,h=>h
 |(f,s,o)::r,F,H,h=>by
  have:=h.wr (some (f,s,o));exact RH.wrL r this
def RO(n:Nat):FO->Out->Prop
 | .no,_=>True
 | .nrm T F,o=>∃t H,o=some (.normal,t,H)/\RT n T t/\RH F H
 | .exi i T F,o=>∃t H,o=some (.exit i,t,H)/\RT n T t/\RH F H
 | .ret T F,o=>∃t H,o=some (.ret,t,H)/\RT n T t/\RH F H
 | .pan v T F,o=>∃t H,o=some (.panic v,t,H)/\RT n T t/\RH F H
def RR:FR->Option (Rt×Heap)->Prop
 | .no,_=>True
 | .ret v F,o=>∃H,o=some (.ret v,H)/\RH F H
 | .pan v F,o=>∃H,o=some (.pan v,H)/\RH F H
def RC(cc:FC)(C:Call):Prop:=∀f args F H,RH F H->RR (cc f args F) (C f args H)
def Sub{α:Type}(no x y:α):Prop:=x=no\/x=y
theorem Q57(k:V->FO):Qke none k= .no:=rfl
theorem Qkp:∀(l:List V) (i:Nat),Q0k l i=l[i]?
 |[],i=>rfl
 |x::l,0=>rfl
 |x::l,i+1=>by
  show Q0k l i=_;rw[Qkp l i];rfl
theorem Q3h:∀(l:List V) (i:Nat) (v:V),setV l i v=l.set i v
 |[],i,v=>rfl
 |x::l,0,v=>rfl
 |x::l,i+1,v=>by
  show x::setV l i v=_;rw[Q3h l i v];rfl
theorem Q2x(l:List V)(i:Nat)(v:V)(h:i<l.length):l.set i v=splice l i [v]:=by
 induction l generalizing i with
 |nil=>simp at h
 |cons x l ih=>
  cases i with
  |zero=>simp[splice]
  |succ i=>
   simp only[Zp9] at h;simp only[List.set_cons_succ,ih i (by omega),splice];simp
theorem Qml{R:Type}(o:Option O)(k:List V->R)(e:R):Qqu o k e=match o with
 |some (.cells xs)=>k xs
 |_=>e:=by
 cases o with
 |none=>rfl
 |some o=>cases o<;>rfl
theorem Qvs{R:Type}(v:V)(kp:Nat->Nat->Nat->R)(ki kr:List V->Nat->R)(e:R):vPtr v kp ki kr e=match v with
 | .ptr f s o=>kp f s o
 | .iptr cs o=>ki cs o
 | .rptr cs o=>kr cs o
 |_=>e:=by cases v<;>rfl
theorem Quy{R:Type}(v:V)(k:IntKind->Int->R)(e:R):vInt v k e=match v with
 | .int a m=>k a m
 |_=>e:=by cases v<;>rfl
theorem Zca{R:Type}(v:V)(k:List V->R)(e:R):vAgg v k e=match v with
 | .agg cs=>k cs
 |_=>e:=by cases v<;>rfl
theorem Zd1{R:Type}(v:V)(k:List V->R)(e:R):vTup v k e=match v with
 | .tuple cs=>k cs
 |_=>e:=by cases v<;>rfl
theorem Qz0{R:Type}(v:V)(a b e:R):vBool v a b e=match v with
 | .bool t=>if t then a else b
 |_=>e:=by
 cases v with
 |bool t=>cases t<;>rfl
 |_=>rfl
theorem Za2(a b:IntKind):Nat.beq (Q33 a) (Q33 b)=decide (a=b):=by cases a<;>cases b<;>rfl
theorem Qgp{R:Type}(m l:Int)(k:Nat->Nat->R)(e:R)(x:Int->Int->R)(h:∀a b:Nat,m=a->l=b->k a b=x m l)(he:e=x m l):Qtn m l k e=x m l:=by
 cases m with
 |ofNat a=>cases l with
  |ofNat b=>exact h a b rfl rfl
  |negSucc b=>exact he
 |negSucc a=>exact he
theorem Qok(k:IntKind)(m:Nat):Qw0 k m=k.wrap (m:Int):=by
 have hu:∀(n:Nat),(Int.ofNat (Nat.mod m n))=(m:Int)%(n:Int):=fun n=>(Int.natCast_emod m n);cases k with
 |i64=>
  show Bool.rec (motive:=fun _=>Int) (IntKind.i64.wrap (Int.ofNat m)) (Int.ofNat m) (Nat.ble m (nat_lit 9223372036854775807))=_;cases h:Nat.ble m (nat_lit 9223372036854775807) with
  |false=>rfl
  |true=>
   have h1:m<=9223372036854775807:=Zqa h;show(m:Int)=_;have e:(m:Int)%(2^64:Int)=m:=by omega
   simp only[IntKind.wrap,IntKind.bits,IntKind.signed,Zo5,e];rw[if_neg];simp only[decide_eq_true_eq];omega
 |u8=>exact hu 256
 |u16=>exact hu 65536
 |u32=>exact hu 4294967296
 |u64=>exact hu 18446744073709551616
 |i8=>rfl
 |i16=>rfl
 |i32=>rfl
theorem Zd8(k:IntKind)(m l:Int):addI k m l=k.wrap (m+l):=by refine Qgp m l _ _ (fun m l=>k.wrap (m+l)) ?_ rfl;rintro a b rfl rfl;rw[Qok];rfl
theorem Zct(k:IntKind)(m l:Int):subI k m l=k.wrap (m-l):=by
 refine Qgp m l _ _ (fun m l=>k.wrap (m-l)) ?_ rfl;rintro a b rfl rfl;cases h:Nat.ble b a with
 |false=>rfl
 |true=>
  have:=Zqa h;show Qw0 k (a-b)=_;rw[Qok];congr 1;omega
theorem Zbe(m l:Int):ltI m l=decide (m<l):=by
 refine Qgp m l _ _ (fun m l=>decide (m<l)) ?_ rfl;rintro a b rfl rfl;cases h:Nat.ble (Nat.succ a) b with
 |true=>have:=Zqa h;symm;exact Zrh (by omega)
 |false=>
  symm;apply Zri;intro e;have:Nat.ble (Nat.succ a) b=true:=Zqw (by omega);rw[this] at h;cases h
theorem Q9y(m l:Int):leI m l=decide (m<=l):=by
 refine Qgp m l _ _ (fun m l=>decide (m<=l)) ?_ rfl;rintro a b rfl rfl;cases h:Nat.ble a b with
 |true=>have:=Zqa h;symm;exact Zrh (by omega)
 |false=>
  symm;apply Zri;intro e;have:Nat.ble a b=true:=Zqw (by omega);rw[this] at h;cases h
theorem Q9q(m l:Int):eqI m l=(m==l):=by
 have:(m==l)=decide (m=l):=by by_cases h:m=l<;>simp[h]
 rw[this];refine Qgp m l _ _ (fun m l=>decide (m=l)) ?_ rfl;rintro a b rfl rfl;cases h:Nat.beq a b with
 |true=>have:=Zqx h;symm;exact Zrh (by omega)
 |false=>
  have:=Nat.ne_of_beq_eq_false h;symm;exact Zri (by omega)
theorem Q71(k:IntKind)(m:Int):convI k m=k.wrap m:=by
 cases m with
 |ofNat a=>exact Qok k a
 |negSucc a=>rfl
section
variable {P : Program} {pol : Pol} {n : Nat}
theorem Qlo{o:Op}{dst:Option Nat}{cc:FC}{nm:Nat}{k:KT}{T:TM}{F:FH}{x:Option V}(h:evX P (Xz F) (fun x=>(cR n x).f T) nm o=Qp2 x)
 (hm:x=none->J6 P (Xz F) (fun x=>(cR n x).f T) nm o=none):Qke x (fun v=>k ((cP n dst).f T v) F)=(Bd P pol n dst o).f cc nm k T F:=by
 simp only[Bd,h,Qp2];cases x with
 |none=>simp only[Zpl,Qq6,hm rfl,Q57]
 |some v=>rfl
theorem Qoi{o:Op}{g:Get}{r:Operand->V}{nm:Nat}(h:∀c,o≠ .call c)(h2:∀t x a b c,o≠ .slice t x a b c:=by simp):J6 P g r nm o=none:=by
 unfold J6;split
 . exact absurd rfl (h2 _ _ _ _ _)
 . rename_i c;exact absurd rfl (h c)
 . rfl
theorem Q7k(dst:Option Nat)(x:Operand)(cc:FC)(nm:Nat)(k:KT)(T:TM)(F:FH):(Zau n dst x).f cc nm k T F=(Bd P pol n dst (.move x)).f cc nm k T F:=rfl
theorem Q4k(dst:Option Nat)(x:Operand)(cc:FC)(nm:Nat)(k:KT)(T:TM)(F:FH):(Zau n dst x).f cc nm k T F=(Bd P pol n dst (.assign x)).f cc nm k T F:=rfl
theorem Za0(dst:Option Nat)(c a b:Operand)(cc:FC)(nm:Nat)(k:KT)(T:TM)(F:FH):(Q9l n dst c a b).f cc nm k T F=(Bd P pol n dst (.pick c a b)).f cc nm k T F:=by
 simp only[Q9l,Qtw,Qz0,Bd,evX,Q8z];cases(cR n c).f T with
 |bool t=>cases t<;>rfl
 |_=>rfl
theorem Zde(dst:Option Nat)(x:Operand)(cc:FC)(nm:Nat)(k:KT)(T:TM)(F:FH):(cNil n dst x).f cc nm k T F=(Bd P pol n dst (.nilCheck x)).f cc nm k T F:=
 Qlo (x:=ncV ((cR n x).f T)) rfl (fun _=>rfl)
theorem Zbm(dst:Option Nat)(op:UnOp)(t:TypeId)(x:Operand)(cc:FC)(nm:Nat)(k:KT)(T:TM)(F:FH):(cUnOp n dst op x).f cc nm k T F=(Bd P pol n dst (.unOp op t x)).f cc nm k T F:=
 Qlo (x:=unV op ((cR n x).f T)) rfl (fun _=>rfl)
theorem Qca(x y:V)(k:IntKind->Int->Int->Option V)(e:Option V)(h:∀a m l,x= .int a m->y= .int a l->k a m l=e)(h2:∀a b m l,x= .int a m->y= .int b l->a≠b->e=none):Qiy x y k e=e:=by
 simp only[Qiy,Quy];cases x with
 |int a m=>
  cases y with
  |int b l=>
   simp only[Za2];by_cases c:a=b
   . subst c;simp only[decide_true];exact h a m l rfl rfl
   . simp only[c,decide_false];exact(h2 a b m l rfl rfl c).symm
  |_=>rfl
 |_=>rfl
theorem Zci(op:BinOp)(t:TypeId)(x y:Operand)(a b:V):(cBin P op t x y).f a b=Zq P op t x y a b:=by
 have no:∀(c d:IntKind) (m l:Int),a= .int c m->b= .int d l->c≠d->op≠ .shl->op≠ .shr->Zq P op t x y a b=none:=by rintro c d m l rfl rfl h h1 h2;cases op<;>first|exact absurd rfl h1|exact absurd rfl h2|simp[Zq,h]
 have yes:∀(c:IntKind) (m l:Int),a= .int c m->b= .int c l->op≠ .shl->op≠ .shr->Zq P op t x y a b=Qfe op c m l:=by rintro c m l rfl rfl h1 h2;cases op<;>first|exact absurd rfl h1|exact absurd rfl h2|simp[Zq]
 cases op<;>simp only[cBin]
 case add=>exact Qca a b _ _ (fun c m l h1 h2=>by rw[yes c m l h1 h2 (by simp) (by simp),Zd8];rfl) (fun c d m l h1 h2 h=>no c d m l h1 h2 h (by simp) (by simp))
 case sub=>exact Qca a b _ _ (fun c m l h1 h2=>by rw[yes c m l h1 h2 (by simp) (by simp),Zct];rfl) (fun c d m l h1 h2 h=>no c d m l h1 h2 h (by simp) (by simp))
 case eql=>exact Qca a b _ _ (fun c m l h1 h2=>by rw[yes c m l h1 h2 (by simp) (by simp),Q9q];rfl) (fun c d m l h1 h2 h=>no c d m l h1 h2 h (by simp) (by simp))
 case neq=>exact Qca a b _ _ (fun c m l h1 h2=>by rw[yes c m l h1 h2 (by simp) (by simp),Q9q];simp only[Qfe,bne];cases(m==l)<;>rfl) (fun c d m l h1 h2 h=>no c d m l h1 h2 h (by simp) (by simp))
 case lss=>exact Qca a b _ _ (fun c m l h1 h2=>by rw[yes c m l h1 h2 (by simp) (by simp),Zbe];rfl) (fun c d m l h1 h2 h=>no c d m l h1 h2 h (by simp) (by simp))
 case leq=>exact Qca a b _ _ (fun c m l h1 h2=>by rw[yes c m l h1 h2 (by simp) (by simp),Q9y];rfl) (fun c d m l h1 h2 h=>no c d m l h1 h2 h (by simp) (by simp))
 case gtr=>exact Qca a b _ _ (fun c m l h1 h2=>by rw[yes c m l h1 h2 (by simp) (by simp),Zbe];rfl) (fun c d m l h1 h2 h=>no c d m l h1 h2 h (by simp) (by simp))
 case geq=>exact Qca a b _ _ (fun c m l h1 h2=>by rw[yes c m l h1 h2 (by simp) (by simp),Q9y];rfl) (fun c d m l h1 h2 h=>no c d m l h1 h2 h (by simp) (by simp))
theorem Q60(dst:Option Nat)(op:BinOp)(t u:TypeId)(x y:Operand)(cc:FC)(nm:Nat)(k:KT)(T:TM)(F:FH):(Q0s P n dst op t x y).f cc nm k T F=(Bd P pol n dst (.binOp op t x y u)).f cc nm k T F:=by simp only[Q0s,Zci];exact Qlo (x:=Zq P op t x y ((cR n x).f T) ((cR n y).f T)) rfl (fun _=>rfl)
theorem Qzd(dst:Option Nat)(t:Operand)(i:Nat)(cc:FC)(nm:Nat)(k:KT)(T:TM)(F:FH):(Qze n dst t i).f cc nm k T F=(Bd P pol n dst (.extract t i)).f cc nm k T F:=by
 refine Qlo (x:=tupO ((cR n t).f T) i) ?_ (fun _=>rfl);simp only[evX,Qq9,tupO,Zd1,Qp2];cases(cR n t).f T with
 |tuple vs=>simp only[Qkp]
 |_=>rfl
theorem Q4o(chk:Bool)(dst:Option Nat)(t:TypeId)(cc:FC)(nm:Nat)(k:KT)(T:TM)(F:FH)(hf:chk=false->F.tr.get nm=none):
 (Q2a P n chk dst t).f cc nm k T F=(Bd P pol n dst (.alloc t)).f cc nm k T F:=by
 simp only[Q2a,Bd,evX,Qz3];cases zeroCells P t with
 |none=>rfl
 |some z=>
  simp only[Zow,new,newK,Xz];cases chk with
  |false=>
   have:=hf rfl;simp only[this];rfl
  |true=>
   cases h:F.tr.get nm with
   |none=>rfl
   |some o=>rfl
theorem Qxb(t:TypeId)(xs:List V)(o:Nat):(Qzb P t).f xs o=Q3 P t xs o:=by
 simp only[Qzb,Q3];cases P.underlying t with
 |none=>rfl
 |some dd=>
  cases sz P t with
  |none=>rfl
  |some m=>
   simp only;cases Qn7 dd with
   |false=>simp only[cond_false,Qkp,Zn5,if_false]
   |true=>
    simp only[cond_true,if_true];by_cases h:o+m<=xs.length
    . rw[if_pos h,Zqw h];rfl
    . have:Nat.ble (o+m) xs.length=false:=by
       rw[Zqu];intro e;exact h (Zqa e)
      rw[if_neg h,this];rfl
theorem Zaa(dst:Option Nat)(t:TypeId)(a:Operand)(cc:FC)(nm:Nat)(k:KT)(T:TM)(F:FH):(Q8y P n dst t a).f cc nm k T F=(Bd P pol n dst (.load t a)).f cc nm k T F:=by
 simp only[Q8y,loadK,Qvs,Qml,Bd,evX,Q9i,Qoi (P:=P) (o:= .load t a) (by simp),Qxb];cases(cR n a).f T with
 |ptr f s o=>
  simp only;cases Xz F f s with
  |none=>rfl
  |some q=>
   cases q with
   |cells xs=>
    simp only;cases Q3 P t xs o<;>rfl
   |_=>rfl
 |iptr cs o=>simp only;cases Q3 P t cs o<;>rfl
 |rptr cs o=>simp only;cases Q3 P t cs o<;>rfl
 |_=>rfl
theorem Qf6{α:Type}(x y:α)(b:Bool):Bool.rec (motive:=fun _=>α) x y b=if b then y else x:=by cases b<;>rfl
theorem Q49{R:Type}(v:V)(k1:R)(kc:List V->R)(e:R):Q9p v k1 kc e=match v with
 | .agg cs=>if cs.all V.scalar then kc cs else e
 | .bad| .tuple _=>e
 |_=>k1:=by
 cases v with
 |agg cs=>exact Qf6 _ _ _
 |_=>rfl
theorem Q5t(dst:Option Nat)(t:TypeId)(a x:Operand)(cc:FC)(nm:Nat)(k:KT)(T:TM)(F:FH):(Q00 P n dst t a x).f cc nm k T F=(Bd P pol n dst (.store t a x)).f cc nm k T F:=by
 simp only[Q00,Bd,evX,Q0t,Qoi (P:=P) (o:= .store t a x) (by simp)];cases sz P t with
 |none=>
  simp only;cases(cR n a).f T with
  |ptr f s o=>cases((cR n x).f T).cells<;>rfl
  |_=>rfl
 |some m=>
  simp only[Q9m,Qvs];cases(cR n a).f T with
  |ptr f s o=>
   simp only[Q49];have one:∀v:V,v.cells=some [v]->(Qqu (Xz F f s) (fun xs=>Bool.rec (motive:=fun _=>FO) .no (Option.rec (motive:=fun _=>FO) .no (fun _=>k ((cP n dst).f T .bad) (wrF F (some (f,s,.cells (setV xs o v))))) (Q0k xs o)) (Nat.beq m (nat_lit 1))) .no)=
    Qq6 pol (match V.ptr f s o,v.cells,some m with
     | .ptr f s o,some cs,some n=>(match Xz F f s with
       |some (.cells xs)=>if cs.length=n/\o+n<=xs.length then some (.val .bad (some (f,s,.cells (splice xs o cs)))) else none
       |_=>none)
     |_,_,_=>none) none cc (fun v F=>k ((cP n dst).f T v) F) T F:=by
    intro v hv;simp only[hv,Qml];cases Xz F f s with
    |none=>rfl
    |some q=>
     cases q with
     |cells xs=>
      simp only[Qf6,Qkp,Q3h];by_cases h:m=1
      . subst h;by_cases h2:o<xs.length
        . rw[Zn1 h2,if_pos (show Nat.beq 1 1=true from rfl),if_pos ⟨rfl,h2⟩,Q2x _ _ _ h2];rfl
        . rw[Zn4 (by omega),if_pos (show Nat.beq 1 1=true from rfl),if_neg (fun e=>h2 e.2)];rfl
      . have:Nat.beq m 1=false:=by rw[Zqu];intro e;exact h (Zqx e)
        show(if Nat.beq m 1=true then _ else FO.no)=_;rw[this,if_neg (by simp),if_neg (fun e=>h (by simpa using e.1.symm))];rfl
     |_=>rfl
   cases(cR n x).f T with
   |bad=>rfl
   |tuple l=>rfl
   |agg cs=>
    simp only[V.cells];by_cases hs:cs.all V.scalar
    . simp only[hs,if_true,Qml];cases Xz F f s with
      |none=>rfl
      |some q=>
       cases q with
       |cells xs=>
        simp only[Qf6];by_cases h:cs.length=m
        . have e:Nat.beq cs.length m=true:=by rw[h];exact Nat.beq_refl m
          by_cases h2:o+m<=xs.length
          . have e2:Nat.ble (Nat.add o m) xs.length=true:=Zqw h2;rw[e,e2,if_pos rfl,if_pos rfl,if_pos ⟨h,h2⟩];rfl
          . have e2:Nat.ble (Nat.add o m) xs.length=false:=by rw[Zqu];intro q;exact h2 (Zqa q)
            rw[e,e2,if_pos rfl,if_neg (by simp),if_neg (fun q=>h2 q.2)];rfl
        . have e:Nat.beq cs.length m=false:=by rw[Zqu];intro q;exact h (Zqx q)
          rw[e,if_neg (by simp),if_neg (fun q=>h q.1)];rfl
       |_=>rfl
    . simp only[hs,if_false,Zn5];rfl
   |_=>exact one _ rfl
  |_=>rfl
theorem Qsb(dst:Option Nat)(t:TypeId)(x:Operand)(i:Nat)(cc:FC)(nm:Nat)(k:KT)(T:TM)(F:FH):(Qj7 P n dst t x i).f cc nm k T F=(Bd P pol n dst (.fieldAddr t x i)).f cc nm k T F:=by
 simp only[Qj7,Bd,evX,Qkl,Qoi (P:=P) (o:= .fieldAddr t x i) (by simp)];cases P.underlying t with
 |none=>rfl
 |some dd=>
  cases dd with
  |struct fs=>
   simp only;cases fs[i]? with
   |none=>rfl
   |some f=>
    simp only;cases sz P f.type with
    |none=>rfl
    |some m=>
     simp only;by_cases h:m=0
     . subst h;rfl
     . have e:Nat.beq m 0=false:=by rw[Zqu];intro q;exact h (Zqx q)
       rw[e,if_neg h];simp only[cond_false,offV,Qvs];cases(cR n x).f T<;>rfl
  |_=>rfl
theorem Zam(t:TypeId)(xs:List V)(o:Nat):(Q9h P t).f xs o=Qcn P t xs o:=by
 simp only[Q9h,Qcn];cases P.underlying t with
 |none=>rfl
 |some dd=>
  cases sz P t with
  |none=>rfl
  |some m=>
   simp only;cases Qn7 dd with
   |false=>simp only[cond_false,Qkp,Zn5,if_false]
   |true=>rfl
theorem Q6s(dst:Option Nat)(t:TypeId)(x:Operand)(i:Nat)(cc:FC)(nm:Nat)(k:KT)(T:TM)(F:FH):(Q0u P n dst t x i).f cc nm k T F=(Bd P pol n dst (.field t x i)).f cc nm k T F:=by
 simp only[Q0u,Bd,evX,Q1e,Qoi (P:=P) (o:= .field t x i) (by simp)];cases P.underlying t with
 |none=>rfl
 |some dd=>
  cases dd with
  |struct fs=>
   simp only;cases hf:fs[i]? with
   |none=>
    simp only;cases(cR n x).f T<;>first|rfl|(simp only[hf];rfl)
   |some f=>
    simp only[aggO,Zca,Zam];cases(cR n x).f T with
    |agg cs=>
     simp only[hf];cases Qcn P f.type cs f.offset<;>rfl
    |_=>rfl
  |_=>rfl
end
section
variable {P : Program} {pol : Pol} {n : Nat}
theorem Zbn{R:Type}(v:V)(nl:R)(ki:List V->Nat->R)(kg:List V->Nat->Nat->R)(km:Nat->Nat->Nat->Nat->Nat->R)(e:R):vSl v nl ki kg km e=match v with
 | .nS=>nl
 | .iS cs m _=>ki cs m
 | .gS _ _ cs m q=>kg cs m q
 | .mS f s o m _ q=>km f s o m q
 |_=>e:=by cases v<;>rfl
theorem Qim(a b:Nat):Nat.beq a b=decide (a=b):=by
 cases h:Nat.beq a b with
 |true=>exact(Zrh (Zqx h)).symm
 |false=>exact(Zri (Nat.ne_of_beq_eq_false h)).symm
theorem Qu8(a b:Nat):Nat.ble a b=decide (a<=b):=by
 cases h:Nat.ble a b with
 |true=>exact(Zrh (Zqa h)).symm
 |false=>
  symm;apply Zri;intro e;rw[Zqw e] at h;cases h
theorem Zee{t e:TypeId}{m:Nat}(hu:P.underlying t=some (.slice e))(hs:sz P e=some m)(x i:V):atSl m x i=Qm P t x i:=by
 simp only[atSl,Quy];cases i with
 |int k i=>
  simp only[Qm,hu,hs];cases i with
  |negSucc i=>
   have:¬(0<=Int.negSucc i):=by omega
   cases x<;>simp only[this,false_and,if_false]
  |ofNat i=>
   have h0:(0:Int)<=(Int.ofNat i):=by simp
   have ht:(Int.ofNat i).toNat=i:=rfl;have hl:∀n:Nat,(Int.ofNat i<(n:Int))↔Nat.succ i<=n:=fun n=>by simp;omega
   simp only[Zbn];cases x with
   |iS cs len full=>
    simp only[Qf6,Qim,Qu8,decide_eq_true_eq,h0,true_and,hl,ht];by_cases a:Nat.succ i<=len
    . by_cases b:cs.length=len*m
      . by_cases c:1<=m
        . simp[a,b,c,Nat.pos_of_ne_zero (by omega:m≠0)]
        . have:¬0<m:=by omega
          simp[a,b,c,this]
      . simp[a,b]
    . simp[a]
   |gS f s cs len e' =>
    simp only[Qf6,Qim,Qu8,decide_eq_true_eq,h0,true_and,hl,ht];by_cases a:Nat.succ i<=len
    . by_cases b:e' =m
      . simp only[a,b,if_true,and_self];cases Qu cs<;>rfl
      . simp[a,b]
    . simp[a]
   |mS f s o len cap e' =>
    simp only[Qf6,Qim,Qu8,decide_eq_true_eq,h0,true_and,hl,ht];by_cases a:Nat.succ i<=len
    . by_cases b:e' =m
      . simp[a,b]
      . simp[a,b]
    . simp[a]
   |_=>(first|rfl|simp)
 |_=>(first|rfl|simp[Qm])
theorem Qsl(dst:Option Nat)(t:TypeId)(x i:Operand)(cc:FC)(nm:Nat)(k:KT)(T:TM)(F:FH):(Qjs P n dst t x i).f cc nm k T F=(Bd P pol n dst (.indexAddr t x i)).f cc nm k T F:=by
 have gen:Qke (Qm P t ((cR n x).f T) ((cR n i).f T)) (fun v=>k ((cP n dst).f T v) F)=(Bd P pol n dst (.indexAddr t x i)).f cc nm k T F:=
  Qlo (x:=Qm P t ((cR n x).f T) ((cR n i).f T)) rfl (fun _=>rfl)
 rw[<-gen];simp only[Qjs];cases hu:P.underlying t with
 |none=>rfl
 |some dd=>
  cases dd with
  |slice e=>
   simp only;cases hs:sz P e with
   |none=>
    have:Qm P t ((cR n x).f T) ((cR n i).f T)=none:=by
     unfold Qm;split
     . simp only[hu,hs]
     . rfl
    rw[this];rfl
   |some m=>
    simp only;rw[Zee hu hs]
  |_=>rfl
theorem Zaf(dst:Option Nat)(s t:TypeId)(x:Operand)(cc:FC)(nm:Nat)(k:KT)(T:TM)(F:FH):(Q7n P pol n dst s t x).f cc nm k T F=(Bd P pol n dst (.convert s t x)).f cc nm k T F:=by
 unfold Q7n;split
 . rename_i q a hq ha;simp only[Quy];split
   . rename_i b m hx;rw[Q71];simp only[Bd,evX,Qkq,convertV,hq,ha,hx];rfl
   . rfl
 . rfl
theorem Zcy{t:TypeId}(h:isSl P t=true):∃e,P.underlying t=some (.slice e):=by
 unfold isSl at h;split at h
 . rename_i e he;exact⟨e,he⟩
 . cases h
theorem Zc8(dst:Option Nat)(c:Go.Call)(cc:FC)(nm:Nat)(k:KT)(T:TM)(F:FH):Sub .no ((cLen P pol n dst c).f cc nm k T F) ((Bd P pol n dst (.call c)).f cc nm k T F):=by
 unfold cLen;split
 . rename_i x t hc ha ht;cases h:isSl P t with
   |false=>exact .inr rfl
   |true=>
    simp only[cond_true];obtain⟨e,he⟩:=Zcy h;have h0:c.argTypes[0]?=some t:=by rw[<-Zot,ht];rfl
    simp only[lenO,Zbn,Bd,evX,Q3c,hc,ha,Zo4,Zpm,builtinV,h0,Ku,he];cases(cR n x).f T with
    |nS=>exact .inr rfl
    |iS cs m f=>exact .inr rfl
    |gS f s cs m q=>exact .inr rfl
    |mS f s o m cap q=>exact .inr rfl
    |_=>exact .inl rfl
 . exact .inr rfl
theorem Za8(dst:Option Nat)(c:Go.Call)(cc:FC)(nm:Nat)(k:KT)(T:TM)(F:FH):Sub .no ((Q7u P pol n dst c).f cc nm k T F) ((Bd P pol n dst (.call c)).f cc nm k T F):=by
 unfold Q7u;split
 . rename_i f hc;refine .inr ?_;have hf:(cR n (.func f)).f T= .func (.func f) [] []:=rfl;simp only[Bd,evX,Q3c,hc,hf,Qq6,Zpu,Zou,Qja];cases hps:pol.prims f with
   |some g=>simp only[Qti,Qja,hps]
   |none=>
   simp only;cases hp:pol.prim f with
   |none=>
    simp only;cases ha:pol.fixA f with
    |some i=>simp only[Qti,Qja,hps,hp,ha]
    |none=>
     cases hx:pol.fix f with
     |false=>simp only[Qti,Qk2,fixF,wrF]
     |true=>simp only[Qti,Qja,hps,hp,ha,hx]
   |some g=>
    simp only[Qti];generalize(List.map (fun x=>(cR n x).f T) c.args.toList)=args;cases g 0 (some F.next) (Xz F) args with
    |none=>rfl
    |some x=>rfl
 . exact .inr rfl
 . exact Zc8 dst c cc nm k T F
theorem cOp_ok(chk:Bool)(dst:Option Nat)(o:Op)(cc:FC)(nm:Nat)(k:KT)(T:TM)(F:FH)(hf:chk=false->F.tr.get nm=none):
 Sub .no ((cOp P pol n chk dst o).f cc nm k T F) ((Bd P pol n dst o).f cc nm k T F):=by
 unfold cOp;split
 . exact .inr (Q7k dst _ cc nm k T F)
 . exact .inr (Q4k dst _ cc nm k T F)
 . exact .inr (Za0 dst _ _ _ cc nm k T F)
 . exact .inr (Q4o chk dst _ cc nm k T F hf)
 . exact .inr (Zaa dst _ _ cc nm k T F)
 . exact .inr (Q5t dst _ _ _ cc nm k T F)
 . exact .inr (Zde dst _ cc nm k T F)
 . exact .inr (Q60 dst _ _ _ _ _ cc nm k T F)
 . exact .inr (Zbm dst _ _ _ cc nm k T F)
 . exact .inr (Qsb dst _ _ _ cc nm k T F)
 . exact .inr (Q6s dst _ _ _ cc nm k T F)
 . exact .inr (Qzd dst _ _ cc nm k T F)
 . exact .inr (Qsl dst _ _ _ cc nm k T F)
 . exact .inr (Zaf dst _ _ _ cc nm k T F)
 . exact Za8 dst _ cc nm k T F
 . exact .inr rfl
def Qi6(Kd:List V->Heap->Out)(x:Option (Ex×List V×Heap)):Out:=match x with
 |some (.normal,t,H)=>Kd t H
 |x=>x
theorem Zcf{x:FR}{o:Option (Rt×Heap)}(h:RR x o)(b:Bool):RR (fixF b x) (Qy1 b o):=by
 cases b with
 |false=>exact h
 |true=>
  cases x with
  |no=>trivial
  |ret v F=>
   obtain⟨H,rfl,hF⟩:=h;simp only[fixF,Qy1,hF.get];cases Qzo (Qd H) v with
   |none=>trivial
   |some y=>exact⟨_,rfl,hF.wr y.2⟩
  |pan v F=>obtain⟨H,rfl,hF⟩:=h;exact⟨H,rfl,hF⟩
theorem Q9o{cc:FC}{C:Call}(hc:RC cc C)(f:FuncId)(args:List V){F:FH}{H:Heap}(h:RH F H):RR (Qja pol cc f args F) (callOp pol C (Zc H) f args H):=by
 unfold Qja callOp;cases pol.prims f with
 |some g=>
  simp only;rw[h.get,h.next];cases g F.next (Qd H) args with
  |none=>trivial
  |some x=>exact⟨_,rfl,RH.wrL _ h⟩
 |none=>
 simp only;cases pol.prim f with
 |none=>
  simp only[h.get];cases Qk2 (Qd H) (pol.fixA f) args with
  |none=>trivial
  |some y=>exact Zcf (hc (some f) y.1 _ _ (h.wr y.2)) _
 |some g=>
  simp only;rw[h.get,h.next];cases g 0 (some F.next) (Qd H) args with
  |none=>trivial
  |some x=>exact⟨_,rfl,h.wr x.2⟩
theorem Zcq{cc:FC}{C:Call}(hc:RC cc C)(nm:Nat){k:KT}{Kd:List V->Heap->Out}(hk:∀T t F H,RT n T t->RH F H->RO n (k T F) (Kd t H))(o:Oper){T:TM}{t:List V}{F:FH}{H:Heap}(hT:RT n T t)(hF:RH F H):
 RO n ((Bd P pol n o.dst o.op).f cc nm k T F) (Qi6 Kd (Zi P pol C nm t H o)):=by
 simp only[Bd,Zi,Q7m,hT.rhoF,hF.get];cases evX P (Qd H) (rho t) nm o.op with
 |none=>
  simp only[Qq6];cases J6 P (Qd H) (rho t) nm o.op with
  |none=>trivial
  |some x=>exact hk _ _ _ _ (hT.put _ _) (RH.wrL _ hF)
 |some s=>
  cases s with
  |val v w=>exact hk _ _ _ _ (hT.put _ _) (hF.wr w)
  |panic v=>exact⟨t,H,rfl,hT,hF⟩
  |call f args=>
   have:=Q9o (pol:=pol) hc f args hF;simp only[Qq6,resK];revert this;cases Qja pol cc f args F with
   |no=>intro _;trivial
   |ret v F' =>rintro⟨H',e,h'⟩;simp only[e,Qi6];exact hk _ _ _ _ (hT.put _ _) h'
   |pan v F' =>rintro⟨H',e,h'⟩;simp only[e,Qi6];exact⟨t,H',rfl,hT,h'⟩
  |round f s args=>
   have:=hc none (.yield f s::args) F H hF;simp only[Qq6,rndK];revert this;cases cc none (.yield f s::args) F with
   |no=>intro _;trivial
   |ret v F' =>rintro⟨H',e,h'⟩;simp only[e,Qi6];exact hk _ _ _ _ (hT.put _ _) h'
   |pan v F' =>intro _;trivial
theorem RO.sub{x y:FO}{o:Out}(h:Sub .no x y)(r:RO n y o):RO n x o:=by
 rcases h with rfl|rfl
 . trivial
 . exact r
theorem Qtg{cc:FC}{C:Call}(hc:RC cc C)(chk:Bool)(nm:Nat){k:KT}{Kd:List V->Heap->Out}(hk:∀T t F H,RT n T t->RH F H->RO n (k T F) (Kd t H))(o:Oper){T:TM}{t:List V}{F:FH}{H:Heap}(hT:RT n T t)(hF:RH F H)
 (hn:chk=false->nm=F.next):RO n ((cOp P pol n chk o.dst o.op).f cc nm k T F) (Qi6 Kd (Zi P pol C nm t H o)):=
 RO.sub (cOp_ok chk o.dst o.op cc nm k T F fun h=>by rw[hn h];exact hF.fresh) (Zcq hc nm hk o hT hF)
theorem Qs3{ops:Array Oper}{T:TM}{t:List V}(hT:RT n T t){o:Oper}{j:Nat}{want:Bool}(hg:o.guard=some (j,want)){i:Nat}(hi:(ops[j]?).bind (·.dst)=some i):
 Z1 ops t o=match(cR n (.tmp i)).f T with
  | .bool b=>some (b==want)
  | .tuple []=>some false
  |_=>none:=by
 rw[hT.rho];simp only[Z1,hg,hi,Zow,rho,List.getD];cases h:t[i]? with
 |none=>rfl
 |some v=>
  cases v with
  |tuple vs=>cases vs<;>rfl
  |_=>rfl
theorem Qm7{ops:Array Oper}{t:List V}{o:Oper}(hg:o.guard=none):Z1 ops t o=some true:=by simp only[Z1,hg]
theorem bcond(b want:Bool):(bif b then want else !want)=(b==want):=by cases b<;>cases want<;>rfl
theorem Qfi{cc:FC}{C:Call}(hc:RC cc C)(ops:Array Oper):∀(l:List Oper) {T:TM} {t:List V} {F:FH} {H:Heap},RT n T t->RH F H->RO n ((Qwu P pol n ops l).f cc T F) (Zp P pol C ops l t H)
 |[],T,t,F,H,hT,hF=>⟨t,H,rfl,hT,hF⟩
 |o::l,T,t,F,H,hT,hF=>by
  have ih:=fun{T:TM} {t:List V} {F:FH} {H:Heap}=>Qfi hc ops l (T:=T) (t:=t) (F:=F) (H:=H);have step:RO n ((cOp P pol n false o.dst o.op).f cc F.next ((Qwu P pol n ops l).f cc) T F) (Qi6 (Zp P pol C ops l) (Zi P pol C (Zc H) t H o)):=by rw[hF.next];exact Qtg hc false F.next (fun T t F H h1 h2=>ih h1 h2) o hT hF (fun _=>rfl)
  have key:(match Zi P pol C (Zc H) t H o with
   |some (.normal,t,H)=>Zp P pol C ops l t H
   |x=>x)=Qi6 (Zp P pol C ops l) (Zi P pol C (Zc H) t H o):=by
   unfold Qi6;rfl
  show RO n ((cG P pol n ops false o).f cc F.next ((Qwu P pol n ops l).f cc) T F) _;simp only[Zp];unfold cG;cases hg:o.guard with
  |none=>
   simp only[Qm7 hg];exact step
  |some q=>
   obtain⟨j,want⟩:=q;simp only;cases hi:(ops[j]?).bind (·.dst) with
   |none=>trivial
   |some i=>
    simp only[Qs3 hT hg hi];cases hv:(cR n (.tmp i)).f T with
    |bool b=>
     simp only[bcond];cases hb:(b==want) with
     |true=>simp only[cond_true];exact step
     |false=>simp only[cond_false];exact ih (hT.put _ _) hF
    |tuple vs=>
     cases vs with
     |nil=>exact ih (hT.put _ _) hF
     |cons v vs=>trivial
    |_=>trivial
theorem fpG_eq(lim nm:Nat){T:TM}{t:List V}{F F1:FH}{H H1:Heap}(hT:RT n T t)(hF:RH F H)(hF1:RH F1 H1)(o:Oper):fpG P lim nm (Xz F) (Xz F1) F.next (fun x=>(cR n x).f T) o=Jp P lim nm t H H1 o:=by
 have e1:=hF.next;simp only[fpG,Jp,Q7m,hT.rhoF,hF.get,hF1.get];split
 . rfl
 . split
   . rfl
   . cases evX P (Qd H) (rho t) nm o.op with
     |none=>rfl
     |some s=>
      have hk:Qi1 lim H H1=fun f s=>Nat.ble lim F.next&&eqbG (Qd H f s) (Qd H1 f s):=by simp only[<-e1];rfl
      cases s with
      |call f args=>simp only[hk]
      |_=>rfl
def RFT(n:Nat):FT->Option (List V×Heap×List FP)->Prop
 | .no,_=>True
 | .ok T F l,o=>∃t H,o=some (t,H,l)/\RT n T t/\RH F H
theorem Qno{cc:FC}{C:Call}(hc:RC cc C)(ops:Array Oper)(lim:Nat):∀(l:List Oper) (nm:Nat) {T:TM} {t:List V} {F:FH} {H:Heap},RT n T t->RH F H->RFT n ((Qnz P pol n ops l).f cc lim nm T F) (Zb P pol C ops lim nm l t H)
 |[],nm,T,t,F,H,hT,hF=>⟨t,H,rfl,hT,hF⟩
 |o::l,nm,T,t,F,H,hT,hF=>by
  have ih:=fun{T:TM} {t:List V} {F:FH} {H:Heap}=>Qno hc ops lim l (nm+1) (T:=T) (t:=t) (F:=F) (H:=H);have cons:∀(fp:FP) (x:FT) (o:Option (List V×Heap×List FP)),RFT n x o->RFT n (Qi9 fp x) (match o with
   |some (t',H',T)=>some (t',H',fp::T)
   |none=>none):=by
   intro fp x o h;cases x with
   |no=>trivial
   |ok T F l=>obtain⟨t,H,rfl,h1,h2⟩:=h;exact⟨t,H,rfl,h1,h2⟩
  have step:RFT n (oneT ((cOp P pol n true o.dst o.op).f cc nm (fun T F=> .nrm T F) T F) fun T1 F1=>
        Qi9 (fpG P lim nm (Xz F) (Xz F1) F.next (fun x=>(cR n x).f T) o) ((Qnz P pol n ops l).f cc lim (Nat.succ nm) T1 F1))
   (match Zi P pol C nm t H o with
     |some (.normal,t1,H1)=>(match Zb P pol C ops lim (nm+1) l t1 H1 with
      |some (t',H',T)=>some (t',H',Jp P lim nm t H H1 o::T)
      |none=>none)
     |_=>none):=by
   have:=Qtg (P:=P) (pol:=pol) hc true nm (k:=fun T F=> .nrm T F) (Kd:=fun t H=>some (.normal,t,H)) (fun T t F H h1 h2=>⟨t,H,rfl,h1,h2⟩) o hT hF (fun e=>by cases e);revert this;cases(cOp P pol n true o.dst o.op).f cc nm (fun T F=> .nrm T F) T F with
   |nrm T1 F1=>
    rintro⟨t1,H1,e,h1,h2⟩;have e2:Zi P pol C nm t H o=some (.normal,t1,H1):=by
     revert e;unfold Qi6;cases Zi P pol C nm t H o with
     |none=>intro e;cases e
     |some y=>
      obtain⟨ex,ty,Hy⟩:=y;cases ex<;>intro e<;>cases e;rfl
    simp only[e2,oneT];rw[fpG_eq lim nm hT hF h2 o];exact cons _ _ _ (ih h1 h2)
   |_=>intro _;trivial
  show RFT n ((match o.guard with
   |none=>(⟨fun cc lim nm T F=>oneT ((cOp P pol n true o.dst o.op).f cc nm (fun T F=> .nrm T F) T F) fun T1 F1=>
     Qi9 (fpG P lim nm (Xz F) (Xz F1) F.next (fun x=>(cR n x).f T) o) ((Qnz P pol n ops l).f cc lim (Nat.succ nm) T1 F1)⟩:Box (FC->Nat->Nat->TM->FH->FT))
   |some (j,want)=>(match(ops[j]?).bind (·.dst) with
    |some i=>⟨fun cc lim nm T F=>match(cR n (.tmp i)).f T with
     | .bool b=>bif (bif b then want else !want) then oneT ((cOp P pol n true o.dst o.op).f cc nm (fun T F=> .nrm T F) T F) fun T1 F1=>
        Qi9 (fpG P lim nm (Xz F) (Xz F1) F.next (fun x=>(cR n x).f T) o) ((Qnz P pol n ops l).f cc lim (Nat.succ nm) T1 F1)
       else Qi9 .quiet ((Qnz P pol n ops l).f cc lim (Nat.succ nm) ((cP n o.dst).f T nov) F)
     | .tuple []=>Qi9 .quiet ((Qnz P pol n ops l).f cc lim (Nat.succ nm) ((cP n o.dst).f T nov) F)
     |_=> .no⟩
    |none=>⟨fun _ _ _ _ _=> .no⟩)).f cc lim nm T F) _
  simp only[Zb];cases hg:o.guard with
  |none=>
   simp only[Qm7 hg];exact step
  |some q=>
   obtain⟨j,want⟩:=q;simp only;cases hi:(ops[j]?).bind (·.dst) with
   |none=>trivial
   |some i=>
    simp only[Qs3 hT hg hi];cases hv:(cR n (.tmp i)).f T with
    |bool b=>
     simp only[bcond];cases hb:(b==want) with
     |true=>simp only[cond_true];exact step
     |false=>simp only[cond_false];exact cons _ _ _ (ih (hT.put _ _) hF)
    |tuple vs=>
     cases vs with
     |nil=>exact cons _ _ _ (ih (hT.put _ _) hF)
     |cons v vs=>trivial
    |_=>trivial
theorem Q14{cc:FC}{C:Call}(hc:RC cc C)(ops:Array Oper)(draw:Bool){T:TM}{t:List V}{F:FH}{H:Heap}(hT:RT n T t)(hF:RH F H):
 RO n ((cReg P pol n ops draw).f cc T F) (if draw then(match Qd H 0 (Zc H+ops.size) with
  |some _=>none
  |none=>(match Zb P pol C ops (Zc H+ops.size) (Zc H) ops.toList t (hset H 0 (Zc H+ops.size) .dead) with
   |some (t',H',T)=>if okT (Region.before ops) (loud T) then some (.normal,t',H') else none
   |none=>none)) else Zp P pol C ops ops.toList t H):=by
 cases draw with
 |false=>exact Qfi hc ops ops.toList hT hF
 |true=>
  simp only[cReg,cond_true,if_true,hF.next,hF.tr];cases Qd H 0 (F.next+ops.size) with
  |some o=>trivial
  |none=>
   simp only;have:=Qno (P:=P) (pol:=pol) hc ops (F.next+ops.size) ops.toList F.next hT (hF.set (F.next+ops.size) .dead);revert this;cases(Qnz P pol n ops ops.toList).f cc (F.next+ops.size) F.next T (Qgz F (F.next+ops.size) .dead) with
   |no=>intro _;trivial
   |ok T' F' l=>
    rintro⟨t',H',e,h1,h2⟩;simp only[e,endT];cases okT (Region.before ops) (loud l) with
    |true=>exact⟨t',H',rfl,h1,h2⟩
    |false=>trivial
end
section
variable {P : Program} {pol : Pol} {n : Nat}
theorem Qvt{x:FO}{o:Out}{k:TM->FH->FO}{Kd:List V->Heap->Out}(h:RO n x o)(hk:∀T t F H,RT n T t->RH F H->RO n (k T F) (Kd t H)):
 RO n (seqK x k) (Qi6 Kd o):=by
 cases x with
 |no=>trivial
 |nrm T F=>obtain⟨t,H,rfl,h1,h2⟩:=h;exact hk _ _ _ _ h1 h2
 |exi i T F=>obtain⟨t,H,rfl,h1,h2⟩:=h;exact⟨t,H,rfl,h1,h2⟩
 |ret T F=>obtain⟨t,H,rfl,h1,h2⟩:=h;exact⟨t,H,rfl,h1,h2⟩
 |pan v T F=>obtain⟨t,H,rfl,h1,h2⟩:=h;exact⟨t,H,rfl,h1,h2⟩
theorem Qq4{body:TM->FH->FO}{bd:Kz}(hb:∀T t F H,RT n T t->RH F H->RO n (body T F) (bd t H)):∀(m:Nat) T t F H,RT n T t->RH F H->RO n (Qtj body m T F) (Zz bd m t H)
 |0,_,_,_,_,_,_=>trivial
 |m+1,T,t,F,H,hT,hF=>by
  have:=Qvt (hb T t F H hT hF) (k:=Qtj body m) (Kd:=Zz bd m) (fun T t F H h1 h2=>Qq4 hb m T t F H h1 h2);exact this
def Zah(id:Nat)(o:Out):Out:=match o with
    |some (.exit i,t,H)=>if i=id then some (.normal,t,H) else some (.exit i,t,H)
    |r=>r
theorem Za7{v:V}{a b:FO}{oa ob:Out}(ha:RO n a oa)(hb:RO n b ob):RO n (Qtw v a b) (match v with
 | .bool q=>if q then oa else ob
 |_=>none):=by
 simp only[Qtw,Qz0];cases v with
 |bool q=>
  cases q with
  |true=>exact ha
  |false=>exact hb
 |_=>trivial
theorem Q4s{id:Nat}{x:FO}{o:Out}(h:RO n x o):RO n (Q99 id x) (Zah id o):=by
 cases x with
 |no=>trivial
 |nrm T F=>obtain⟨t,H,rfl,h1,h2⟩:=h;exact⟨t,H,rfl,h1,h2⟩
 |exi i T F=>
  obtain⟨t,H,rfl,h1,h2⟩:=h;show RO n (Bool.rec (motive:=fun _=>FO) (.exi i T F) (.nrm T F) (Nat.beq i id)) _;rw[Qf6,Qim];simp only[decide_eq_true_eq,Zah];by_cases e:i=id
  . rw[if_pos e,if_pos e];exact⟨t,H,rfl,h1,h2⟩
  . rw[if_neg e,if_neg e];exact⟨t,H,rfl,h1,h2⟩
 |ret T F=>obtain⟨t,H,rfl,h1,h2⟩:=h;exact⟨t,H,rfl,h1,h2⟩
 |pan v T F=>obtain⟨t,H,rfl,h1,h2⟩:=h;exact⟨t,H,rfl,h1,h2⟩
theorem Q1j{s:Nat}{T:TM}{t:List V}{F:FH}{H:Heap}(hT:RT n T t)(hF:RH F H):RO n (Qoy s T F) (K0 s t H):=by
 unfold Qoy K0;rw[hF.tr];cases Qd H 0 s with
 |none=>trivial
 |some o=>
  cases o with
  |loop st pend fn rid t0=>
   simp only[Qim];by_cases e:st=1
   . rw[if_pos e];simp only[e,decide_true,cond_true];trivial
   . rw[if_neg e];simp only[e,decide_false,cond_false];cases pend with
     |none=>exact⟨t,_,rfl,hT,hF.set s .dead⟩
     |some j=>cases j with
      |none=>exact⟨t,_,rfl,hT,hF.set s .dead⟩
      |some i=>exact⟨t,_,rfl,hT,hF.set s .dead⟩
  |_=>trivial
def Qd0(pol:Pol):Prop:=∀f r,pol.loop f r=none
variable {cc : FC} {C : Call} {fn : Nat}
theorem Qdh(hl:Qd0 pol)(hc:RC cc C)(m:Nat)(c:Code):
 (∀T t F H,RT n T t->RH F H->RO n ((comp P pol n fn c).1.f cc m T F) (Ze P pol C (fun b=>Zz b m) fn c t H))/\
 (∀v w T t F H,RT n T t->RH F H->RO n ((comp P pol n fn c).2.f cc m v w T F) (Je P pol C (fun b=>Zz b m) fn c v w t H)):=by
 induction c with
 |skip=>exact⟨fun T t F H hT hF=>⟨t,H,by simp only[Ze],hT,hF⟩,fun _ _ _ _ _ _ _ _=>trivial⟩
 |region id ops draw=>
  refine⟨fun T t F H hT hF=>?_,fun v w T t F H hT hF=>?_⟩
  . simp only[Ze];exact Q14 hc ops draw hT hF
  . simp only[Je];show RO n ((match ops.toList with
     |o::r=>(⟨fun cc _ v w T F=>(Qwu P pol n ops r).f cc ((cP n o.dst).f T v) (wrF F w)⟩:Box (FC->Nat->V->Option (Nat×Nat×O)->KT))
     |[]=>⟨fun _ _ _ _ _ _=> .no⟩).f cc m v w T F) _
    cases ops.toList with
    |nil=>trivial
    |cons o r=>exact Qfi hc ops r (hT.put _ _) (hF.wr w)
 |seq a b iha ihb=>
  refine⟨fun T t F H hT hF=>?_,fun v w T t F H hT hF=>?_⟩
  . simp only[Ze];exact Qvt (iha.1 T t F H hT hF) ihb.1
  . simp only[Je];exact Qvt (iha.2 v w T t F H hT hF) ihb.1
 |cond c a b iha ihb=>
  refine⟨fun T t F H hT hF=>?_,fun _ _ _ _ _ _ _ _=>trivial⟩;simp only[Ze];have:=Za7 (v:=(cR n c).f T) (iha.1 T t F H hT hF) (ihb.1 T t F H hT hF);rw[hT.rho c] at this;show RO n (Qtw ((cR n c).f T) ((comp P pol n fn a).1.f cc m T F) ((comp P pol n fn b).1.f cc m T F)) _;rw[hT.rho c];exact this
 |block id b ihb=>
  refine⟨fun T t F H hT hF=>?_,fun _ _ _ _ _ _ _ _=>trivial⟩;simp only[Ze];exact Q4s (ihb.1 T t F H hT hF)
 |loop b ihb=>
  refine⟨fun T t F H hT hF=>?_,fun _ _ _ _ _ _ _ _=>trivial⟩;have hl' :=hl fn (Zt b);simp only[Ze,hl'];show RO n ((match Z0 b with
   |none=>(⟨fun cc m T F=>Qtj ((comp P pol n fn b).1.f cc m) m T F⟩:Box CB)
   |some x=>⟨fun cc m T F=>Qtj (fun T F=>match Y8 (Xz F) ((cR n x).f T) with
     |some [c]=>(comp P pol n fn b).2.f cc m c.1 c.2 T F
     |_=> .no) m T F⟩).f cc m T F) _
  cases Z0 b with
  |none=>exact Qq4 ihb.1 m T t F H hT hF
  |some x=>
   refine Qq4 (fun T t F H hT hF=>?_) m T t F H hT hF;simp only[hF.get,hT.rho];cases Y8 (Qd H) (rho t x) with
   |none=>trivial
   |some l=>
    match l with
    |[]=>trivial
    |[c]=>exact ihb.2 c.1 c.2 T t F H hT hF
    |_::_::_=>trivial
 |rangeFunc g ps a b iha ihb=>
  refine⟨fun T t F H hT hF=>?_,fun _ _ _ _ _ _ _ _=>trivial⟩;simp only[Ze];show RO n (match(cR n g).f T with
   | .func (.func f) first cap=>Q2b (cc (some f) (first++[.yield 0 F.next]++cap) (Qgz F F.next (.loop 0 none fn (Zl a b) (toL T n 0)))) F.next T
   |_=> .no) _
  rw[hT.rho];cases rho t g with
  |func q first cap=>
   cases q with
   |func f=>
    have hn:=hF.fresh;rw[hF.tr] at hn;simp only[hF.next,hn,toL_eq hT];have:=hc (some f) (first++[.yield 0 F.next]++cap) _ _ (hF.set F.next (.loop 0 none fn (Zl a b) t));revert this;cases cc (some f) (first++[.yield 0 F.next]++cap) (Qgz F F.next (.loop 0 none fn (Zl a b) t)) with
    |no=>intro _;trivial
    |ret v F' =>rintro⟨H',e,h'⟩;simp only[e,Q2b];exact Q1j hT h'
    |pan v F' =>intro _;trivial
   |_=>trivial
  |_=>trivial
 |exit id=>exact⟨fun T t F H hT hF=>⟨t,H,by simp only[Ze],hT,hF⟩,fun _ _ _ _ _ _ _ _=>trivial⟩
 |ret=>exact⟨fun T t F H hT hF=>⟨t,H,by simp only[Ze],hT,hF⟩,fun _ _ _ _ _ _ _ _=>trivial⟩
 |_=>exact⟨fun _ _ _ _ _ _=>trivial,fun _ _ _ _ _ _ _ _=>trivial⟩
theorem Zdv{T:TM}{t:List V}{F:FH}{H:Heap}(hT:RT n T t)(hF:RH F H)(x:ResultVar):(resO P n x).f T F=Qak P t H x:=by
 cases x with
 |tmp i=>show some ((cR n (.tmp i)).f T)=_;rw[hT.rho];rfl
 |cell a ty=>
  show(match(cR n (.tmp a)).f T with
  | .ptr f s o=>(match Xz F f s with
    |some (.cells xs)=>(Qzb P ty).f xs o
    |_=>none)
  |_=>none)=_
  rw[hT.rho,hF.get];simp only[Qak,rho];cases t.getD a .bad with
  |ptr f s o=>
   simp only;cases Qd H f s with
   |none=>rfl
   |some q=>cases q<;>first|rfl|(simp only[Qxb])
  |_=>rfl
theorem Q3m{T:TM}{t:List V}{F:FH}{H:Heap}(hT:RT n T t)(hF:RH F H):∀l:List ResultVar,(Q2w P n l).f T F=Qha P t H l
 |[]=>rfl
 |x::l=>by
  show(match(resO P n x).f T F,(Q2w P n l).f T F with
   |some v,some vs=>some (v::vs)
   |_,_=>none)=_
  rw[Zdv hT hF x,Q3m hT hF l];rfl
theorem Qu1{T:TM}{t:List V}{F:FH}{H:Heap}(hT:RT n T t)(hF:RH F H)(Fn:Func):RR (retK ((Q2w P n Fn.results.toList).f T F) F) (match Qcb P Fn t H with
        |some v=>some (.ret v,H)
        |none=>none):=by
 rw[Q3m hT hF];simp only[Qcb];cases Qha P t H Fn.results.toList with
 |none=>trivial
 |some l=>
  match l with
  |[]=>exact⟨H,rfl,hF⟩
  |[v]=>exact⟨H,rfl,hF⟩
  |_::_::_=>exact⟨H,rfl,hF⟩
def RD(n:Nat):FD->Option (Ex×List V×Heap×List V)->Prop
 | .ok (.nrm T F) ds,o=>∃t H,o=some (.normal,t,H,ds)/\RT n T t/\RH F H
 | .ok (.ret T F) ds,o=>∃t H,o=some (.ret,t,H,ds)/\RT n T t/\RH F H
 |_,_=>True
theorem Qzl{x:FO}{o:Out}(h:RO n x o):RD n x.plain (noD o):=by
 cases x with
 |nrm T F=>obtain⟨t,H,rfl,h1,h2⟩:=h;exact⟨t,H,rfl,h1,h2⟩
 |ret T F=>obtain⟨t,H,rfl,h1,h2⟩:=h;exact⟨t,H,rfl,h1,h2⟩
 |_=>trivial
theorem Qyt{fn:FuncId}(hl:Qd0 pol)(hc:RC cc C)(m:Nat):∀(c:Code) (T:TM) (t:List V) (F:FH) (H:Heap),RT n T t->RH F H->RD n (Qnj P pol n fn cc m c T F) (Qd2 P pol C (fun b=>Zz b m) fn c t H):=by
 intro c
 induction c with
 |seq a b _ ihb=>
  intro T t F H hT hF;simp only[Qnj,Qd2];cases hd:Qib a with
  |some q=>
   obtain⟨ops,l,d,x⟩:=q;simp only;have h1:=Qfi (P:=P) (pol:=pol) (n:=n) hc ops l hT hF;revert h1;cases(Qwu P pol n ops l).f cc T F with
   |nrm T1 F1=>
    rintro⟨t1,H1,e,hT1,hF1⟩;rw[e];simp only;rw[hT1.rho x];cases rho t1 x with
    |func f p q=>
     simp only;have h2:=ihb _ _ _ _ (hT1.put d nov) hF1;revert h2;cases Qnj P pol n fn cc m b ((cP n d).f T1 nov) F1 with
     |no=>intro _;trivial
     |ok y ds=>
      cases y with
      |nrm T2 F2=>rintro⟨t2,H2,e2,h3,h4⟩;rw[e2];exact⟨t2,H2,rfl,h3,h4⟩
      |ret T2 F2=>rintro⟨t2,H2,e2,h3,h4⟩;rw[e2];exact⟨t2,H2,rfl,h3,h4⟩
      |_=>intro _;trivial
    |_=>trivial
   |_=>intro _;trivial
  |none=>
   simp only;cases hn:(Q9 a).isEmpty with
   |true=>
    simp only[cond_true,if_true];have h1:=(Qdh (P:=P) (pol:=pol) (n:=n) (fn:=fn) hl hc m a).1 T t F H hT hF;revert h1;cases(comp P pol n fn a).1.f cc m T F with
    |no=>intro _;trivial
    |nrm T1 F1=>rintro⟨t1,H1,e,hT1,hF1⟩;rw[e];exact ihb _ _ _ _ hT1 hF1
    |exi i T1 F1=>intro _;trivial
    |ret T1 F1=>rintro⟨t1,H1,e,hT1,hF1⟩;rw[e];exact⟨t1,H1,rfl,hT1,hF1⟩
    |pan v T1 F1=>intro _;trivial
   |false=>
    simp only[cond_false,Zn5,if_false];exact Qzl ((Qdh (P:=P) (pol:=pol) (n:=n) (fn:=fn) hl hc m (.seq a b)).1 T t F H hT hF)
 |_=>
  intro T t F H hT hF;simp only[Qnj,Qd2];exact Qzl ((Qdh (P:=P) (pol:=pol) (n:=n) (fn:=fn) hl hc m _).1 T t F H hT hF)
theorem Qk4(hc:RC cc C):∀(ds:List V) (F:FH) (H:Heap) (F2:FH),RH F H->Qgr P cc ds F=some F2->∃H2,Qd7 P C ds H=some H2/\RH F2 H2
 |[],F,H,F2,hF,h=>by cases h;exact⟨H,rfl,hF⟩
 |v::ds,F,H,F2,hF,h=>by
  have key:∃g first cap,v= .func (.func g) first cap:=by
   cases v with
   |func f p q=>
    cases f with
    |func g=>exact⟨g,p,q,rfl⟩
    |_=>simp[Qgr] at h
   |_=>simp[Qgr] at h
  obtain⟨g,first,cap,rfl⟩:=key;simp only[Qgr] at h;cases hp:Qlx P g with
  |false=>rw[hp] at h;cases h
  |true=>
   rw[hp] at h;simp only[cond_true] at h;have h1:=hc (some g) (first++cap) F H hF;revert h1 h;cases cc (some g) (first++cap) F with
   |ret w F1=>
    intro h;rintro⟨H1,e,h2⟩;obtain⟨H2,q1,q2⟩:=Qk4 hc ds F1 H1 F2 h2 h;exact⟨H2,by simp only[Qd7,hp,if_true,e,q1],q2⟩
   |_=>intro h;cases h
theorem Qvn(hl:Qd0 pol)(hc:RC cc C)(m:Nat)(f:FuncId)(args:List V){F:FH}{H:Heap}(hF:RH F H):
 RR ((Q0l P pol f).f cc m args F) (Qbk P pol C (fun b=>Zz b m) f args H):=by
 unfold Q0l Qbk;cases P.funcs[f]? with
 |none=>trivial
 |some Fn=>
  simp only;cases Fn.body with
  |none=>trivial
  |some c=>
   simp only;cases hb:Nat.blt 1056 Fn.ntmps with
   |true=>trivial
   |false=>
    have hn:Fn.ntmps<=1056:=by
     rcases Zn3 1056 Fn.ntmps with h|h
     . have:Nat.blt 1056 Fn.ntmps=true:=by rw[Nat.blt_eq];exact h
       rw[this] at hb;cases hb
     . exact h
    simp only[cond_false];cases hdc:Qki c with
    |true=>
     simp only[cond_true,if_true];cases ha:Nat.ble args.length Fn.ntmps with
     |false=>trivial
     |true=>
      have hla:=Zqa ha;simp only[cond_true,Qzu];have:=Qyt (P:=P) (pol:=pol) (n:=Fn.ntmps) (fn:=f) hl hc m c _ _ F H (RT.args hn args hla) hF;revert this;have fin:∀(T:TM) (F' :FH) (ds:List V) (t' :List V) (H' :Heap),RT Fn.ntmps T t' ->RH F' H' ->RR (match Qgr P cc ds F' with
       |some F2=>retK ((Q2w P Fn.ntmps Fn.results.toList).f T F2) F2
       |none=> .no) (match Qd7 P C ds H' with
       |some H2=>(match Qcb P Fn t' H2 with
        |some v=>some (.ret v,H2)
        |none=>none)
       |none=>none):=by
       intro T F' ds t' H' h1 h2;cases hds:Qgr P cc ds F' with
       |none=>trivial
       |some F2=>
        obtain⟨H2,e2,h3⟩:=Qk4 hc ds F' H' F2 h2 hds;rw[e2];exact Qu1 h1 h3 Fn
      cases Qnj P pol Fn.ntmps f cc m c (ofL args 0 emp) F with
      |no=>intro _;trivial
      |ok y ds=>
       cases y with
       |nrm T F' =>rintro⟨t',H',e,h1,h2⟩;rw[e];exact fin T F' ds t' H' h1 h2
       |ret T F' =>rintro⟨t',H',e,h1,h2⟩;rw[e];exact fin T F' ds t' H' h1 h2
       |_=>intro _;trivial
    |false=>
    simp only[cond_false,Zn5,if_false];cases ha:Nat.ble args.length Fn.ntmps with
    |false=>trivial
    |true=>
     have hla:=Zqa ha;simp only[cond_true];have:=(Qdh (P:=P) (pol:=pol) (n:=Fn.ntmps) (fn:=f) hl hc m c).1 _ _ F H (RT.args hn args hla) hF;revert this;cases(comp P pol Fn.ntmps f c).1.f cc m (ofL args 0 emp) F with
     |no=>intro _;trivial
     |nrm T F' =>rintro⟨t',H',e,h1,h2⟩;simp only[e];exact Qu1 h1 h2 Fn
     |exi i T F' =>intro _;trivial
     |ret T F' =>rintro⟨t',H',e,h1,h2⟩;simp only[e];exact Qu1 h1 h2 Fn
     |pan v T F' =>rintro⟨t',H',e,h1,h2⟩;simp only[e];exact⟨H',rfl,h2⟩
theorem Q20:∀(ps:List Tmp) (l:List V) {T:TM} {t:List V},RT n T t->RT n (putA n ps l T) (Bt t (ps.zip l))
 |[],_,_,_,h=>h
 |p::ps,[],_,_,h=>h
 |p::ps,v::l,T,t,h=>Q20 ps l (h.put (some p) v)
def Quk(so:Nat)(o:Out):Option (Rt×Heap):=match o with
          |some (e,_,H2)=>Bn 0 so e H2
          |none=>none
theorem Qzf{so:Nat}{x:FO}{o:Out}(h:RO n x o):RR (Qe8 so x) (Quk so o):=by
 cases x with
 |no=>trivial
 |nrm T F=>
  obtain⟨t,H,rfl,h1,h2⟩:=h;simp only[Qe8,Quk,Bn,h2.tr];cases Qd H 0 so with
  |none=>trivial
  |some o=>cases o<;>first|trivial|exact⟨_,rfl,h2.set _ _⟩
 |ret T F=>
  obtain⟨t,H,rfl,h1,h2⟩:=h;simp only[Qe8,Quk,Bn,h2.tr];cases Qd H 0 so with
  |none=>trivial
  |some o=>cases o<;>first|trivial|exact⟨_,rfl,h2.set _ _⟩
 |exi i T F=>
  obtain⟨t,H,rfl,h1,h2⟩:=h;simp only[Qe8,Quk,Bn,h2.tr];cases Qd H 0 so with
  |none=>trivial
  |some o=>cases o<;>first|trivial|exact⟨_,rfl,h2.set _ _⟩
 |pan v T F=>trivial
theorem Qv8(hl:Qd0 pol)(hc:RC cc C)(m:Nat)(fo so:Nat)(args:List V){F:FH}{H:Heap}(hF:RH F H):
 RR (Qvk P pol cc m fo so args F) (Qay P pol C (fun b=>Zz b m) fo so args H):=by
 unfold Qvk Qay;cases fo with
 |succ fo=>trivial
 |zero=>
  simp only[hF.tr];cases Qd H 0 so with
  |none=>trivial
  |some o=>
   cases o with
   |loop st pend fL rid t0=>
    cases st with
    |succ st=>trivial
    |zero=>
     simp only;unfold compR;cases hP:P.funcs[fL]? with
     |none=>trivial
     |some Fn=>
      cases Qt P fL rid with
      |none=>trivial
      |some q=>
       obtain⟨ps,a,b⟩:=q;simp only;cases hb:Nat.blt 1056 Fn.ntmps with
       |true=>trivial
       |false=>
        have hn:Fn.ntmps<=1056:=by
         rcases Zn3 1056 Fn.ntmps with h|h
         . have:Nat.blt 1056 Fn.ntmps=true:=by rw[Nat.blt_eq];exact h
           rw[this] at hb;cases hb
         . exact h
        simp only[cond_false,Qim];by_cases h1:args.length=ps.size
        . by_cases h2:t0.length=Fn.ntmps
          . simp only[h1,h2,decide_true,Zqc,cond_true,if_true];have hm:=Qdh (P:=P) (pol:=pol) (n:=Fn.ntmps) (fn:=fL) hl hc m;have:=(hm a).1 _ _ F H (Q20 ps.toList args (RT.ofT hn t0 h2)) hF;revert this;cases(comp P pol Fn.ntmps fL a).1.f cc m (putA Fn.ntmps ps.toList args (ofL t0 0 emp)) F with
            |nrm T1 F1=>
             rintro⟨t1,H1,e,g1,g2⟩;simp only[e,midR,g2.tr];cases Qd H1 0 so with
             |none=>trivial
             |some o=>
              cases o with
              |loop st pend fL2 rid2 t2=>
               cases st with
               |succ st=>trivial
               |zero=>exact Qzf ((hm b).1 _ _ _ _ g1 (g2.set so _))
              |_=>trivial
            |_=>intro _;trivial
          . have:(decide (t0.length=Fn.ntmps))=false:=Zri h2;simp only[this,Bool.and_false,cond_false];trivial
        . have:(decide (args.length=ps.size))=false:=Zri h1;simp only[this,Zqy,cond_false];trivial
   |_=>trivial
theorem Qhv(hl:Qd0 pol):∀m,RC (Qqi P pol m) (Yh P pol m)
 |0=>fun _ _ _ _ _=>trivial
 |m+1=>by
  intro f args F H hF;cases f with
  |some f=>exact Qvn hl (Qhv hl m) m f args hF
  |none=>
   show RR (match args with
    | .yield fo so::rest=>Qvk P pol (Qqi P pol m) m fo so rest F
    |_=> .no) (match args with
    | .yield fo so::rest=>Qay P pol (Yh P pol m) (fun b=>Zz b m) fo so rest H
    |_=>none)
   cases args with
   |nil=>trivial
   |cons v l=>
    cases v with
    |yield fo so=>exact Qv8 hl (Qhv hl m) m fo so l hF
    |_=>trivial
end
end Go.AM.BM
end
