/- This file holds in one the texts An21, An22, An17, An35; each says at its head what it proves. -/
import Derived.Test.YtmapmgfiamfocaaGreatT7
import Derived.RangeFuncRecord
import Derived.RangeFuncCalls
import Derived.OrdersIn
import Derived.RangeFuncNested
import Derived.Maps.RangeRun
set_option linter.unusedSimpArgs false
set_option linter.unusedVariables false
section
namespace Go.AM
section
variable {P : Program} {pol : Pol} {C : Call} {fn fr : Nat} {ops : Array Oper} {T : List FP}
def Qhl(ops:Array Oper)(o:Oper)(t' t:List V):Prop:=(∀x∈o.op.operands,rho t' x=rho t x)/\Ba ops t' o=Ba ops t o
theorem Za{a b:Oper}(h:Qb5 ops a b=true)(v:V)(t:List V):Qhl ops b (Z5 t a.dst v) t:=⟨Qqw h t,Qtc h t⟩
theorem Qhl.symm{o:Oper}{t t' :List V}(h:Qhl ops o t t'):Qhl ops o t' t:=⟨fun x hx=>(h.1 x hx).symm,h.2.symm⟩
theorem Qbp{i:Nat}{o:Oper}{t t1:List V}{H H1:Qg}(ho:ops[i]?=some o)(h:Qbf P pol C fn fr ops T i t H=some (t1,H1)):
 (T.getD i .all= .quiet/\∃v,t1=Z5 t o.dst v/\H1=H/\∀t' H',Qhl ops o t' t->Qbf P pol C fn fr ops T i t' H' =some (Z5 t' o.dst v,H'))\/
 (∃w v r,T.getD i .all= .ids r (Qbw w)/\t1=Z5 t o.dst v/\H1=wr H w/\
   ∀t' H',Qhl ops o t' t->(∀f s,(f,s)∈r->Qd H' f s=Qd H f s)->Qbf P pol C fn fr ops T i t' H' =some (Z5 t' o.dst v,wr H' w))\/
 (T.getD i .all= .all/\∃v,t1=Z5 t o.dst v/\∀t',Qhl ops o t' t->Qbf P pol C fn fr ops T i t' H=some (Z5 t' o.dst v,H1))\/
 (T.getD i .all= .peek/\∃v,t1=Z5 t o.dst v/\H1=H/\∀t',Qhl ops o t' t->Qbf P pol C fn fr ops T i t' H=some (Z5 t' o.dst v,H))\/
 (∃ks x,T.getD i .all= .side ks x/\∃v,t1=Z5 t o.dst v/\(∀y∈ks,Qd H1 y.1 y.2=Qd H y.1 y.2)/\(∀t',Qhl ops o t' t->Qbf P pol C fn fr ops T i t' H=some (Z5 t' o.dst v,H1))/\
   ∀d,x=some (fr,d)->Qd H1 fr d=Qd H fr d/\∀cs,Qd H fr d=none->pol.news fn d=some cs->∀t',Qhl ops o t' t->Qbf P pol C fn fr ops T i t' (Qs H fr d (.cells cs))=some (Z5 t' o.dst v,Qs H1 fr d (.cells cs)))\/
 (∃d cs v,T.getD i .all= .fresh (fr,d)/\pol.news fn d=some cs/\Qd H fr d=none/\t1=Z5 t o.dst v/\H1=wr H (some (fr,d,.cells cs))/\
   ∀t' H',Qhl ops o t' t->Qd H' fr d=none->Qbf P pol C fn fr ops T i t' H' =some (Z5 t' o.dst v,wr H' (some (fr,d,.cells cs)))):=by
 simp only[Qbf,ho] at h⊢;split at h
 . cases h
 . rename_i hw;split at h
   . rename_i hT;cases h;left;refine⟨hT,nov,rfl,rfl,fun t' H' ha=>?_⟩;rw[ha.2,hw];simp only[hT,if_true]
   . cases h
 . rename_i hw;split at h
   case isFalse=>cases h
   rename_i hT;split at h
   case h_2=>cases h
   rename_i t2 H2 hop;cases h;rcases Q2p t H o hop with⟨h1,v,h2,h3,h4⟩|⟨w,v,h1,h2,h3,h4⟩|⟨h1,v,h2,h3⟩|⟨h1,v,h2,h2',h3⟩|⟨ks,x,h1,v,h2,h4,h3,h5⟩|⟨d,cs,v,h1,h2,h3,h4,h5,h6⟩
   . left;refine⟨hT.symm.trans h1,v,h2,h3,fun t' H' ha=>?_⟩;obtain⟨g1,g2⟩:=h4 t' H' ha.1;rw[ha.2,hw];simp only[g1,g2,<-hT,h1,if_true]
   . right;left;refine⟨w,v,_,hT.symm.trans h1,h2,h3,fun t' H' ha hg=>?_⟩;obtain⟨g1,g2⟩:=h4 t' H' ha.1 hg;rw[ha.2,hw];simp only[g1,g2,<-hT,h1,if_true]
   . right;right;left;refine⟨hT.symm.trans h1,v,h2,fun t' ha=>?_⟩;obtain⟨g1,g2⟩:=h3 t' ha.1;rw[ha.2,hw];simp only[g1,g2,<-hT,h1,if_true]
   . right;right;right;left;refine⟨hT.symm.trans h1,v,h2,h2',fun t' ha=>?_⟩;obtain⟨g1,g2⟩:=h3 t' ha.1;rw[ha.2,hw];simp only[g1,g2,<-hT,h1,if_true]
   . right;right;right;right;left;refine⟨ks,x,hT.symm.trans h1,v,h2,h4,fun t' ha=>?_,fun d hd=>?_⟩
     . obtain⟨g1,g2⟩:=h3 t' ha.1;rw[ha.2,hw];simp only[g1,g2,<-hT,h1,if_true]
     . obtain⟨g3,g4⟩:=h5 d hd;refine⟨g3,fun cs hn hc t' ha=>?_⟩;obtain⟨g1,g2⟩:=g4 cs hn hc t' ha.1;rw[ha.2,hw];simp only[g1,g2,<-hT,h1,if_true]
   . right;right;right;right;right;refine⟨d,cs,v,hT.symm.trans h1,h2,h3,h4,h5,fun t' H' ha hg=>?_⟩;obtain⟨g1,g2⟩:=h6 t' H' ha.1 hg;rw[ha.2,hw];simp only[g1,g2,<-hT,h1,if_true]
theorem Qd6{a b:List (Nat×Nat)}(h:(!Qiz a b)=true){x:Nat×Nat}(hx:x∈a):x∉b:=by intro hb;simp only[Qiz,Zf6,List.any_eq_false] at h;exact h x hx (by simpa using hb)
theorem Qk7{H:Qg}{w:Option (Nat×Nat×O)}{f s:Nat}(h:(f,s)∉Qbw w):Qd (wr H w) f s=Qd H f s:=by
 cases w with
 |none=>rfl
 |some x=>
  obtain⟨f',s',q⟩:=x;simp only[wr];refine Qkf H q ?_;rintro⟨rfl,rfl⟩;exact h (by simp[Qbw])
theorem Qsm{H:Qg}{w w' :Option (Nat×Nat×O)}(h:(!Qiz (Qbw w) (Qbw w'))=true):wr (wr H w) w' =wr (wr H w') w:=by
 cases w with
 |none=>rfl
 |some x=>
  cases w' with
  |none=>rfl
  |some y=>
   obtain⟨f,s,q⟩:=x;obtain⟨f',s',q'⟩:=y;simp only[wr];refine Qij H q q' ?_;rintro⟨rfl,rfl⟩;exact Qd6 h (x:=(f,s)) (by simp[Qbw]) (by simp[Qbw])
theorem Q2c{i j:Nat}{oi oj:Oper}(hi:ops[i]?=some oi)(hj:ops[j]?=some oj)(ha:Qb5 ops oi oj=true)(hI:(T.getD i .all).indep (T.getD j .all)=true)
 {t t1 t2:List V}{H H1 H2:Qg}(h1:Qbf P pol C fn fr ops T i t H=some (t1,H1))(h2:Qbf P pol C fn fr ops T j t1 H1=some (t2,H2)):
 ∃t1' H1',Qbf P pol C fn fr ops T j t H=some (t1',H1')/\Qbf P pol C fn fr ops T i t1' H1' =some (t2,H2):=by
 have hs:=Qyh ha;rcases Qbp hi h1 with⟨q1,v,rfl,rfl,g1⟩|⟨w,v,r,q1,rfl,rfl,g1⟩|⟨q1,v,rfl,g1⟩|⟨q1,v,rfl,rfl,g1⟩|⟨ks,x,q1,v,rfl,e1,g1,f1⟩|⟨d,cs,v,q1,n1,k1,rfl,rfl,g1⟩
 . rcases Qbp hj h2 with⟨q2,u,rfl,rfl,g2⟩|⟨w',u,r',q2,rfl,rfl,g2⟩|⟨q2,u,rfl,g2⟩|⟨q2,u,rfl,rfl,g2⟩|⟨ks',x',q2,u,rfl,e2,g2,f2⟩|⟨d',cs',u,q2,n2,k2,rfl,rfl,g2⟩
   . refine⟨_,_,g2 t H2 (Za ha v t).symm,?_⟩;rw[g1 _ _ (Za hs u t),Yx ha]
   . refine⟨_,_,g2 t H1 (Za ha v t).symm (fun _ _ _=>rfl),?_⟩;rw[g1 _ _ (Za hs u t),Yx ha]
   . refine⟨_,_,g2 t (Za ha v t).symm,?_⟩;rw[g1 _ _ (Za hs u t),Yx ha]
   . refine⟨_,_,g2 t (Za ha v t).symm,?_⟩;rw[g1 _ _ (Za hs u t),Yx ha]
   . refine⟨_,_,g2 t (Za ha v t).symm,?_⟩;rw[g1 _ _ (Za hs u t),Yx ha]
   . refine⟨_,_,g2 t _ (Za ha v t).symm k2,?_⟩;rw[g1 _ _ (Za hs u t),Yx ha]
 . rcases Qbp hj h2 with⟨q2,u,rfl,rfl,g2⟩|⟨w',u,r',q2,rfl,rfl,g2⟩|⟨q2,u,rfl,g2⟩|⟨q2,u,rfl,rfl,g2⟩|⟨ks',x',q2,u,rfl,e2,g2,f2⟩|⟨d',cs',u,q2,n2,k2,rfl,rfl,g2⟩
   . refine⟨_,_,g2 t H (Za ha v t).symm,?_⟩;rw[g1 _ _ (Za hs u t) (fun _ _ _=>rfl),Yx ha]
   . rw[q1,q2] at hI;simp only[FP.indep,Zfr] at hI;obtain⟨⟨i1,i2⟩,i3⟩:=hI;refine⟨_,_,g2 t H (Za ha v t).symm (fun f s hm=>?_),?_⟩
     . exact(Qk7 (fun hw=>Qd6 i1 hw hm)).symm
     . rw[g1 _ _ (Za hs u t) (fun f s hm=>Qk7 (fun hw=>Qd6 i3 hw hm)),Yx ha,Qsm i2]
   . rw[q1,q2] at hI;cases hI
   . rw[q1,q2] at hI;cases w with
     |some x=>cases hI
     |none=>
      refine⟨_,_,g2 t (Za ha v t).symm,?_⟩;rw[g1 (Z5 t oj.dst u) (wr H none) (Za hs u t) (fun _ _ _=>rfl),Yx ha];rfl
   . rw[q1,q2] at hI;cases w with
     |some x=>cases hI
     |none=>
      simp only[FP.indep,Zf1,Zfr] at hI;refine⟨_,_,g2 t (Za ha v t).symm,?_⟩;refine(g1 _ _ (Za hs u t) (fun f s hm=>e2 (f,s) (by simpa using hI.2 _ hm))).trans ?_;rw[Yx ha];rfl
   . rw[q1,q2] at hI;simp only[FP.indep,Zfr] at hI;have hw:(fr,d')∉Qbw w:=fun h=>Qd6 hI.1 h (by simp);refine⟨_,_,g2 t H (Za ha v t).symm (by rw[<-Qk7 hw];exact k2),?_⟩;rw[g1 _ _ (Za hs u t) (fun f s hm=>Qk7 (fun h=>by
      simp only[Qbw,Zfx] at h
      exact Qd6 hI.2 (x:=(fr,d')) (by simp) (h▸hm))),Yx ha,Qsm (w:=w) (w' :=some (fr,d',.cells cs')) (by simpa [Qbw] using hI.1)]
 . rcases Qbp hj h2 with⟨q2,u,rfl,rfl,g2⟩|⟨w',u,r',q2,rfl,rfl,g2⟩|⟨q2,u,rfl,g2⟩|⟨q2,u,rfl,rfl,g2⟩|⟨ks',x',q2,u,rfl,e2,g2,f2⟩|⟨d',cs',u,q2,n2,k2,rfl,rfl,g2⟩
   . refine⟨_,_,g2 t H (Za ha v t).symm,?_⟩;rw[g1 _ (Za hs u t),Yx ha]
   . rw[q1,q2] at hI;cases hI
   . rw[q1,q2] at hI;cases hI
   . rw[q1,q2] at hI;cases hI
   . rw[q1,q2] at hI;cases hI
   . rw[q1,q2] at hI;cases hI
 . rcases Qbp hj h2 with⟨q2,u,rfl,rfl,g2⟩|⟨w',u,r',q2,rfl,rfl,g2⟩|⟨q2,u,rfl,g2⟩|⟨q2,u,rfl,rfl,g2⟩|⟨ks',x',q2,u,rfl,e2,g2,f2⟩|⟨d',cs',u,q2,n2,k2,rfl,rfl,g2⟩
   . refine⟨_,_,g2 t _ (Za ha v t).symm,?_⟩;rw[g1 _ (Za hs u t),Yx ha]
   . rw[q1,q2] at hI;cases w' with
     |some x=>cases hI
     |none=>
      refine⟨_,_,g2 t _ (Za ha v t).symm (fun _ _ _=>rfl),?_⟩;exact(g1 _ (Za hs u t)).trans (by rw[Yx ha];rfl)
   . rw[q1,q2] at hI;cases hI
   . refine⟨_,_,g2 t (Za ha v t).symm,?_⟩;rw[g1 _ (Za hs u t),Yx ha]
   . rw[q1,q2] at hI;cases hI
   . rw[q1,q2] at hI;cases hI
 . rcases Qbp hj h2 with⟨q2,u,rfl,rfl,g2⟩|⟨w',u,r',q2,rfl,rfl,g2⟩|⟨q2,u,rfl,g2⟩|⟨q2,u,rfl,rfl,g2⟩|⟨ks',x',q2,u,rfl,e2,g2,f2⟩|⟨d',cs',u,q2,n2,k2,rfl,rfl,g2⟩
   . refine⟨_,_,g2 t _ (Za ha v t).symm,?_⟩;rw[g1 _ (Za hs u t),Yx ha]
   . rw[q1,q2] at hI;cases w' with
     |some x=>cases hI
     |none=>
      simp only[FP.indep,Zf1,Zfr] at hI;refine⟨_,_,g2 t _ (Za ha v t).symm (fun f s hm=>(e1 (f,s) (by simpa using hI.2 _ hm)).symm),?_⟩;exact(g1 _ (Za hs u t)).trans (by rw[Yx ha];rfl)
   . rw[q1,q2] at hI;cases hI
   . rw[q1,q2] at hI;cases hI
   . rw[q1,q2] at hI;cases hI
   . rw[q1,q2] at hI;simp only[FP.indep,decide_eq_true_eq] at hI;subst hI;obtain⟨h6,h7⟩:=f1 d' rfl;refine⟨_,_,g2 t H (Za ha v t).symm (by rw[<-h6];exact k2),?_⟩;exact(h7 cs' (by rw[<-h6];exact k2) n2 _ (Za hs u t)).trans (by rw[Yx ha];rfl)
 . rcases Qbp hj h2 with⟨q2,u,rfl,rfl,g2⟩|⟨w',u,r',q2,rfl,rfl,g2⟩|⟨q2,u,rfl,g2⟩|⟨q2,u,rfl,rfl,g2⟩|⟨ks',x',q2,u,rfl,e2,g2,f2⟩|⟨d',cs',u,q2,n2,k2,rfl,rfl,g2⟩
   . refine⟨_,_,g2 t _ (Za ha v t).symm,?_⟩;rw[g1 _ _ (Za hs u t) k1,Yx ha]
   . rw[q1,q2] at hI;simp only[FP.indep,Zfr] at hI;have hw:(fr,d)∉Qbw w' :=fun h=>Qd6 hI.1 h (by simp);refine⟨_,_,g2 t H (Za ha v t).symm (fun f s hm=>(Qk7 (fun h=>by
      simp only[Qbw,Zfx] at h
      exact Qd6 hI.2 (x:=(fr,d)) (by simp) (h▸hm))).symm),?_⟩
     rw[g1 _ _ (Za hs u t) (by rw[Qk7 hw];exact k1),Yx ha,Qsm (w:=w') (w' :=some (fr,d,.cells cs)) (by simpa [Qbw] using hI.1)]
   . rw[q1,q2] at hI;cases hI
   . rw[q1,q2] at hI;cases hI
   . rw[q1,q2] at hI;cases hI
   . rw[q1,q2] at hI;cases hI
theorem Qmj{i:Nat}{l2:List Nat}{res:List V×Qg}(hi:i<ops.size):∀(l1:List Nat) (t:List V) (H:Qg),
 (∀j∈l1,j<ops.size/\Qb5 ops (ops.getD j default) (ops.getD i default)=true/\(T.getD j .all).indep (T.getD i .all)=true)->
 Qg3 P pol C fn fr ops T (l1++i::l2) t H=some res->Qg3 P pol C fn fr ops T (i::(l1++l2)) t H=some res
 |[],t,H,_,h=>h
 |j::l1,t,H,hl,h=>by
  obtain⟨hj,ha,hI⟩:=hl j (by simp);simp only[Zgh,Qg3] at h;cases h1:Qbf P pol C fn fr ops T j t H with
  |none=>rw[h1] at h;cases h
  |some x=>
   obtain⟨t1,H1⟩:=x;rw[h1] at h;have ih:=Qmj hi l1 t1 H1 (fun k hk=>hl k (by simp[hk])) h;simp only[Qg3] at ih;cases h2:Qbf P pol C fn fr ops T i t1 H1 with
   |none=>rw[h2] at ih;cases ih
   |some y=>
    obtain⟨t2,H2⟩:=y;rw[h2] at ih;have e1:ops[j]?=some (ops.getD j default):=by simp[Array.getD,hj]
    have e2:ops[i]?=some (ops.getD i default):=by simp[Array.getD,hi]
    obtain⟨t1',H1',g1,g2⟩:=Q2c e1 e2 ha hI h1 h2;simp only[Zgh,Qg3,g1,g2];exact ih
end
theorem Qud(ops:Array Oper):(Region.before ops).size=ops.size/\∀i o j,ops[i]?=some o->((Region.before ops).getD i 0).testBit j=true->
 ∃e∈o.after,Region.binds .any e=true/\(e.on=j\/((Region.before ops).getD e.on 0).testBit j=true):=by
 have key:∀(l:List Oper) (acc:Array Nat) (pre:List Oper),acc.size=pre.length->
  (∀i o j,pre[i]?=some o->(acc.getD i 0).testBit j=true->∃e∈o.after,Region.binds .any e=true/\(e.on=j\/(acc.getD e.on 0).testBit j=true))->
  (l.foldl (fun acc o=>acc.push (o.after.foldl (fun s e=>if Region.binds .any e then s|||2^e.on|||acc.getD e.on 0 else s) 0)) acc).size=pre.length+l.length/\
  ∀i o j,(pre++l)[i]?=some o->((l.foldl (fun acc o=>acc.push (o.after.foldl (fun s e=>if Region.binds .any e then s|||2^e.on|||acc.getD e.on 0 else s) 0)) acc).getD i 0).testBit j=true->
   ∃e∈o.after,Region.binds .any e=true/\(e.on=j\/((l.foldl (fun acc o=>acc.push (o.after.foldl (fun s e=>if Region.binds .any e then s|||2^e.on|||acc.getD e.on 0 else s) 0)) acc).getD e.on 0).testBit j=true):=by
  intro l
  induction l with
  |nil=>intro acc pre hs h;simpa [hs] using h
  |cons o l ih=>
   intro acc pre hs h;simp only[List.foldl_cons];generalize hn:o.after.foldl (fun s e=>if Region.binds .any e then s|||2^e.on|||acc.getD e.on 0 else s) 0=n;have hgrow:∀k j,(acc.getD k 0).testBit j=true->((acc.push n).getD k 0).testBit j=true:=by
    intro k j hb;have hk:k<acc.size:=by
     rcases Ze5 k acc.size with hk|hk
     . exact hk
     . simp[Array.getD,Nat.not_lt.2 hk] at hb
    have:(acc.push n).getD k 0=acc.getD k 0:=by simp only[Array.getD,hk,Zfd,Zfe hk,dif_pos,Array.getInternal_eq_getElem];exact Array.getElem_push_lt hk
    rw[this];exact hb
   have hfold:∀(es:List Edge) (s j:Nat),((es.foldl (fun s e=>if Region.binds .any e then s|||2^e.on|||acc.getD e.on 0 else s) s)).testBit j=true->
    s.testBit j=true\/∃e∈es,Region.binds .any e=true/\(e.on=j\/(acc.getD e.on 0).testBit j=true):=by
    intro es
    induction es with
    |nil=>intro s j hb;exact .inl hb
    |cons e es ihe=>
     intro s j hb;simp only[List.foldl_cons] at hb;rcases ihe _ j hb with g|⟨e',he',g⟩
     . by_cases hbd:Region.binds .any e=true
       . rw[if_pos hbd] at g;simp only[Nat.testBit_or,Zgj,Nat.testBit_two_pow,decide_eq_true_eq] at g;rcases g with(g|g)|g
         . exact .inl g
         . exact .inr ⟨e,by simp,hbd,.inl g⟩
         . exact .inr ⟨e,by simp,hbd,.inr g⟩
       . rw[if_neg hbd] at g;exact .inl g
     . exact .inr ⟨e',by simp[he'],g⟩
   have:=ih (acc.push n) (pre++[o]) (by simp[hs]) (by
    intro i o' j hi hb;rcases Ze5 i pre.length with hlt|hge
    . have hi' :pre[i]?=some o' :=by rw[Zfy hlt] at hi;exact hi
      have:(acc.push n).getD i 0=acc.getD i 0:=by
       have hk:i<acc.size:=by omega
       simp only[Array.getD,hk,Zfd,Zfe hk,dif_pos,Array.getInternal_eq_getElem];exact Array.getElem_push_lt hk
      rw[this] at hb;obtain⟨e,h1,h2,h3⟩:=h i o' j hi' hb;exact⟨e,h1,h2,h3.imp_right (hgrow _ _)⟩
    . have hieq:i=pre.length:=by
       rcases Ze5 i (pre++[o]).length with g|g
       . simp at g;omega
       . rw[Ze6 g] at hi;cases hi
      subst hieq;have ho:o' =o:=by simpa using hi.symm
      subst ho;have hnv:(acc.push n).getD pre.length 0=n:=by rw[<-hs];simp[Array.getD]
      rw[hnv,<-hn,<-Array.foldl_toList] at hb;rcases hfold _ _ _ hb with g|⟨e,h1,h2,h3⟩
      . simp at g
      . exact⟨e,by simpa using h1,h2,h3.imp_right (hgrow _ _)⟩)
   simpa [Zfq,Nat.add_comm 1] using this
 have:=key ops.toList #[] [] rfl (by intro i o j hi;simp at hi);simp only[Zg2,Zff,Zhh,Zf3] at this;have e:Region.before ops=ops.toList.foldl (fun acc o=>acc.push (o.after.foldl (fun s e=>if Region.binds .any e then s|||2^e.on|||acc.getD e.on 0 else s) 0)) #[]:=by unfold Region.before;rw[<-Array.foldl_toList]
 rw[e];refine⟨this.1,fun i o j hi hb=>this.2 i o j (by simpa using hi) hb⟩
def Qlz(ops:Array Oper):Bool:=
 (List.range ops.size).all fun i=>
   ((ops.getD i default).after.all fun e=>!Region.binds .any e||decide (e.on<i))&&
   (List.range i).all fun j=>((Region.before ops).getD i 0).testBit j||Qb5 ops (ops.getD j default) (ops.getD i default)
section
variable {P : Program} {pol : Pol} {C : Call} {fn fr : Nat} {ops : Array Oper} {T : List FP}
theorem Qv3{bef:Array Nat}:∀{l:List (FP×Nat)},okT bef l=true->∀{l1 l2:List (FP×Nat)} {a b:FP} {i j:Nat},l=l1++(a,i)::l2->(b,j)∈l2->
 (bef.getD j 0).testBit i=true\/a.indep b=true
 |[],_,l1,l2,a,b,i,j,h,_=>by simp at h
 |(c,k)::r,h,l1,l2,a,b,i,j,he,hm=>by
  simp only[okT,Zfr,Zf1] at h;cases l1 with
  |nil=>
   simp only[Zhh,List.cons.injEq,Prod.mk.injEq] at he;obtain⟨⟨rfl,rfl⟩,rfl⟩:=he;have:=h.1 (b,j) hm;simpa using this
  |cons x l1=>
   simp only[Zgh,List.cons.injEq] at he;exact Qv3 h.2 he.2 hm
theorem Q0w{bef:Array Nat}(h:okT bef (loud T)=true){i j:Nat}(hij:i<j)(hj:j<T.length):
 (bef.getD j 0).testBit i=true\/(T.getD i .all).indep (T.getD j .all)=true:=by
 have hi:i<T.length:=Nat.lt_trans hij hj;have ei:T.getD i .all=T[i]:=by simp[List.getD,hi]
 have ej:T.getD j .all=T[j]:=by simp[List.getD,hj]
 rw[ei,ej];by_cases qi:T[i]= .quiet
 . right;rw[qi];cases T[j]<;>rfl
 by_cases qj:T[j]= .quiet
 . right;rw[qj];cases T[i]<;>rfl
 have hsplit:T.zipIdx=(T.zipIdx.take i)++(T[i],i)::T.zipIdx.drop (i+1):=by
  have hl:i<T.zipIdx.length:=by simpa using hi
  have e:T.zipIdx[i]=(T[i],i):=by simp
  rw[<-e,List.getElem_cons_drop];exact(Zft _ _).symm
 have e:loud T=(T.zipIdx.take i).filter (fun x=>x.1.loud)++(T[i],i)::(T.zipIdx.drop (i+1)).filter (fun x=>x.1.loud):=by
  unfold loud
  conv=>lhs;rw[hsplit]
  rw[Zh2,Zhy];have:(T[i],i).1.loud=true:=by simp only;cases hq:T[i]<;>first|exact absurd hq qi|rfl
  rw[if_pos this]
 refine Qv3 h e ?_;rw[Zgn];constructor
 . rw[List.mem_iff_getElem?];refine⟨j-(i+1),?_⟩;rw[Zhv];have:i+1+(j-(i+1))=j:=by omega
   rw[this];simp[hj]
 . simp only;cases hq:T[j]<;>first|exact absurd hq qj|rfl
theorem Qwc(h:Qlz ops=true):∀i,i<ops.size->(∀e∈(ops.getD i default).after,Region.binds .any e=true->e.on<i)/\
 ∀j,j<i->((Region.before ops).getD i 0).testBit j=true\/Qb5 ops (ops.getD j default) (ops.getD i default)=true:=by
 simp only[Qlz,Zfr,Zf1,Zh8,Zgj] at h;intro i hi;obtain⟨h1,h2⟩:=h i hi;refine⟨fun e he hbd=>?_,h2⟩;have h3:=Zh4.1 h1 e he;simpa [hbd] using h3
def Qik(n:Nat)(listed:Array Bool):List Nat:=(List.range n).filter fun i=>!listed.getD i true
theorem Q31{n i:Nat}{listed:Array Bool}(hn:listed.size=n)(hi:i<n)(hu:listed.getD i true=false):
 Qik n listed=(List.range i).filter (fun k=>!listed.getD k true)++i::((List.range' (i+1) (n-(i+1))).filter fun k=>!listed.getD k true)/\
 Qik n (listed.setIfInBounds i true)=(List.range i).filter (fun k=>!listed.getD k true)++((List.range' (i+1) (n-(i+1))).filter fun k=>!listed.getD k true):=by
 have hr:List.range n=List.range i++i::List.range' (i+1) (n-(i+1)):=by
  have e:n=i+(n-i):=by omega
  have e2:n-i=(n-(i+1))+1:=by omega
  conv=>lhs;rw[e,Zh9,<-List.range'_append_1]
  rw[<-Zh9,Zff,e2,Zh5]
 have Qs:∀k,k≠i->(listed.setIfInBounds i true).getD k true=listed.getD k true:=by intro k hk;simp only[Zia];rw[Zh6 (fun e=>hk e.symm)]
 have hseti:(listed.setIfInBounds i true).getD i true=true:=by simp[Zia,hn,hi]
 constructor
 . unfold Qik;rw[hr,Zh2,Zhy,hu];rfl
 . unfold Qik;rw[hr,Zh2,Zhy,hseti];simp only[Zhf,Ze7,if_false];congr 1
   . refine List.filter_congr fun k hk=>?_;rw[Qs k (by have:=Zh8.1 hk;omega)]
   . refine List.filter_congr fun k hk=>?_;rw[Qs k (by have:=(List.mem_range'_1.1 hk).1;omega)]
def Closed(ops:Array Oper)(listed:Array Bool):Prop:=∀i j,i<ops.size->listed.getD i false=true->((Region.before ops).getD i 0).testBit j=true->listed.getD j false=true
theorem Qso(h:Qlz ops=true)(hT:T.length=ops.size)(hok:okT (Region.before ops) (loud T)=true){res:List V×Qg}:
 ∀(fuel tp:Nat) (listed:Array Bool) (acc:List Nat) (t:List V) (H:Qg),listed.size=ops.size->Closed ops listed->(Qik ops.size listed).length=fuel->
  Qg3 P pol C fn fr ops T (Qik ops.size listed) t H=some res->
  ∃L,Region.linearise.go .any ops fuel tp listed acc=acc.reverse++L/\Qg3 P pol C fn fr ops T L t H=some res:=by
 have hsp:=Qwc h;intro fuel
 induction fuel with
 |zero=>
  intro tp listed acc t H _ _ hl hr;have:Qik ops.size listed=[]:=List.length_eq_zero_iff.1 hl;rw[this] at hr;exact⟨[],by simp[Region.linearise.go],hr⟩
 |succ fuel ih=>
  intro tp listed acc t H hsz hcl hl hr;simp only[Region.linearise.go];generalize hrs:(List.range ops.size).filter (fun i=>!listed.getD i true&&((ops[i]?).map (·.after.all fun e=>!Region.binds .any e||listed.getD e.on false)).getD false)=rs;obtain⟨m,hm,hmin⟩:∃m,m∈Qik ops.size listed/\∀k∈Qik ops.size listed,m<=k:=by
   cases htd:Qik ops.size listed with
   |nil=>rw[htd] at hl;cases hl
   |cons m r=>
    refine⟨m,by simp,fun k hk=>?_⟩;have hp:(Qik ops.size listed).Pairwise (· < ·):=List.Pairwise.filter _ List.pairwise_lt_range;rw[htd] at hp;rcases Zfi.1 hk with rfl|hk
    . exact Ze8 _
    . exact Zhr ((Zgr.1 hp).1 k hk)
  have hm' :=hm;simp only[Qik,Zgn,Zh8,Zf6] at hm';have hrm:m∈rs:=by
   rw[<-hrs,Zgn];refine⟨Zh8.2 hm'.1,?_⟩;have eo:ops[m]?=some (ops.getD m default):=by simp[Array.getD,hm'.1]
   simp only[hm'.2,Zgo,Zge,eo,Ze4,Zgi];rw[Zh4];intro e he;cases hbd:Region.binds .any e with
   |false=>rfl
   |true=>
   have hlt:=(hsp m hm'.1).1 e he hbd;simp only[Zhf,Bool.false_or];have hon:e.on<ops.size:=Nat.lt_trans hlt hm'.1;cases hb:listed.getD e.on false with
   |true=>rfl
   |false=>
    have:e.on∈Qik ops.size listed:=by simp only[Qik,Zgn,Zh8,Zf6];refine⟨hon,?_⟩;simp only[Array.getD,hsz,hon,dif_pos] at hb⊢;exact hb
    have:=hmin _ this;omega
  have hpos:0<rs.length:=List.length_pos_of_mem hrm;have hlt:tp%rs.length<rs.length:=Nat.mod_lt _ hpos;rw[Ze3 hlt];generalize hi:rs[tp%rs.length]=i;have hir:i∈rs:=by rw[<-hi];exact Zg5 hlt
  rw[<-hrs,Zgn] at hir;obtain⟨hin,hir⟩:=hir;have hin:=Zh8.1 hin;simp only[Zfr,Zf6] at hir;obtain⟨hu,hir⟩:=hir;have eo:ops[i]?=some (ops.getD i default):=by simp[Array.getD,hin]
  simp only[eo,Ze4,Zgi] at hir;rw[Zh4] at hir;have hbefore:∀j,((Region.before ops).getD i 0).testBit j=true->listed.getD j false=true:=by
   intro j hb;obtain⟨e,he,hbd,hor⟩:=(Qud ops).2 i _ j eo hb;have:=hir e he;simp only[hbd,Zhf,Bool.false_or] at this;rcases hor with rfl|hor
   . exact this
   . exact hcl e.on j (Nat.lt_trans ((hsp i hin).1 e he hbd) hin) this hor
  obtain⟨e1,e2⟩:=Q31 hsz hin hu;rw[e1] at hr;have hb:=Qmj hin _ t H (fun j hj=>by
   rw[Zgn] at hj;have hjl:=Zh8.1 hj.1;have hjn:j<ops.size:=Nat.lt_trans hjl hin;have hnb:((Region.before ops).getD i 0).testBit j≠true:=by intro hb;have:=hbefore j hb;have hj2:=hj.2;simp only[Array.getD,hsz,hjn,dif_pos,Zf6] at this hj2;rw[this] at hj2;cases hj2
   refine⟨hjn,?_,?_⟩
   . exact((hsp i hin).2 j hjl).resolve_left hnb
   . exact(Q0w hok hjl (by rw[hT];exact hin)).resolve_left hnb) hr
  simp only[Qg3] at hb;cases hst:Qbf P pol C fn fr ops T i t H with
  |none=>rw[hst] at hb;cases hb
  |some x=>
   obtain⟨t1,H1⟩:=x;rw[hst] at hb;simp only at hb;rw[<-e2] at hb;have hgs:∀k,(listed.setIfInBounds i true).getD k false=true↔(k=i\/listed.getD k false=true):=by
    intro k;by_cases hk:k=i
    . subst hk;simp[Zia,hsz,hin]
    . simp only[hk,false_or,Zia];rw[Zh6 (fun e=>hk e.symm)]
   obtain⟨L,g1,g2⟩:=ih (tp/rs.length) (listed.setIfInBounds i true) (i::acc) t1 H1 (by simpa using hsz) (by
    intro k j hk hkl hkb;rw[hgs] at hkl⊢;rcases hkl with hki|hkl
    . rw[hki] at hkb;exact .inr (hbefore j hkb)
    . exact .inr (hcl k j hk hkl hkb)) (by
    have hl1:=hl;rw[e1] at hl1;rw[e2];simp only[Zfv,Zgz] at hl1⊢
    omega) hb
   refine⟨i::L,?_,?_⟩
   . simpa using g1
   . simp only[Qg3,hst];exact g2
theorem Qpj(h:Qlz ops=true)(hT:T.length=ops.size)(hok:okT (Region.before ops) (loud T)=true){res:List V×Qg}{t:List V}{H:Qg}
 (hr:Qg3 P pol C fn fr ops T (List.range ops.size) t H=some res){m:Bool}(hm:m=true)(tp:Nat):Qg3 P pol C fn fr ops T (Region.schedule m ops tp) t H=some res:=by
 subst hm;have e0:Qik ops.size (Array.replicate ops.size false)=List.range ops.size:=by unfold Qik;rw[List.filter_eq_self];intro k hk;have:=Zh8.1 hk;simp[Array.getD,this]
 obtain⟨L,g1,g2⟩:=Qso (P:=P) (pol:=pol) (C:=C) (fn:=fn) (fr:=fr) h hT hok ops.size tp (Array.replicate ops.size false) [] t H (by simp) (by
  intro i j hi hl
  simp[Array.getD] at hl) (by rw[e0];simp) (by rw[e0];exact hr)
 have:Region.schedule true ops tp=L:=by simp only[Region.schedule,Bool.true_or,if_true,Region.linearise];simpa using g1
 rw[this];exact g2
theorem Qj8:∀(l pre:List Oper) (T0:List FP) (t:List V) (H:Qg) (t' :List V) (H' :Qg) (T1:List FP),ops.toList=pre++l->T0.length=pre.length->
 Jc P pol C fn fr ops l t H=some (t',H',T1)->T1.length=l.length/\Qg3 P pol C fn fr ops (T0++T1) (List.range' pre.length l.length) t H=some (t',H')
 |[],pre,T0,t,H,t',H',T1,_,_,h=>by cases h;exact⟨rfl,rfl⟩
 |o::l,pre,T0,t,H,t',H',T1,he,hl,h=>by
  have ho:ops[pre.length]?=some o:=by
   have:ops.toList[pre.length]?=some o:=by rw[he];simp
   simpa using this
  have he' :ops.toList=(pre++[o])++l:=by rw[he];simp
  have main:∀(fp:FP) (t1:List V) (H1:Qg),(∀T2:List FP,Qbf P pol C fn fr ops (T0++fp::T2) pre.length t H=some (t1,H1))->
   (match Jc P pol C fn fr ops l t1 H1 with
   |some (t',H',T)=>some (t',H',fp::T)
   |none=>none)=some (t',H',T1)->T1.length=(o::l).length/\Qg3 P pol C fn fr ops (T0++T1) (List.range' pre.length (o::l).length) t H=some (t',H'):=by
   intro fp t1 H1 hst hm;split at hm
   case h_2=>cases hm
   rename_i t2 H2 T2 hrun;cases hm;obtain⟨g1,g2⟩:=Qj8 l (pre++[o]) (T0++[fp]) t1 H1 _ _ _ he' (by simp[hl]) hrun;refine⟨by simp[g1],?_⟩;simp only[Zgz,Zh5,Qg3,hst];simpa using g2
  have Qd:∀(fp:FP) (T2:List FP),(T0++fp::T2).getD pre.length .all=fp:=by intro fp T2;simp[List.getD,<-hl]
  simp only[Jc] at h;split at h
  . cases h
  . rename_i hw;refine main .quiet (Z5 t o.dst nov) H (fun T2=>?_) h;simp only[Qbf,ho,hw,Qd,if_true]
  . rename_i hw;split at h
    case h_2=>cases h
    rename_i t1 H1 hop;refine main (Bl P pol fn fr t H o) t1 H1 (fun T2=>?_) h;simp only[Qbf,ho,hw,Qd,if_true,hop]
end
def Qeb(E:Env):Ex->Exit->Prop
 | .normal,e=>e= .normal
 | .exit i,e=>e= .exit i
 | .ret,e=>e= .ret
 | .panic v,e=>∃c,e= .panic [{v:=c,recovered:=false}]/\Rel E v c
def RtRel(E:Env):Rt->Ending->Prop
 | .ret v,e=>∃c,e= .returned c/\Rel E v c
 | .pan v,e=>∃c,e= .panicked [{v:=c,recovered:=false}]/\Rel E v c
def Qay(P:Program)(f:FuncId)(args:Array Value)(w:World)(R:Ending->World->Prop):Prop:=
 (∃v w',(callFunc f args).run P w= .ok (.value v) w' /\R (.returned v) w')\/(∃j,(callFunc f args).run P w= .ok (.enter j args) w/\Calls P j args w R)
def Qbq(B:Nat)(F:Nat->Nat->Prop)(H:Qg)(E:Env)(r:Rt)(H' :Qg)(e:Ending)(w' :World):Prop:=
 ∃E',E'.w=w' /\RtRel E' r e/\Sim B F H' E' /\Ext H.length B E E' /\H.length<=H'.length
abbrev G(ro:Option Nat):Fence:={Fence.wide with round:=ro}
def Qb8(P:Program)(C:Call):Prop:=
 (∀(f:FuncId) args H r H',C (some f) args H=some (r,H')->(∃(F:Func) (c:Code),P.funcs[f]?=some F/\F.body=some c)/\
   ∀B F E cargs,Sim B F H E->E.tab=Km P->Qr E args cargs->Calls P f ⟨cargs⟩ E.w (Qbq B F H E r H'))/\
 (∀fo so rest H r H',C none (.yield fo so::rest) H=some (r,H')->∀B F E b cargs (n:Nat),Sim B F H E->E.tab=Km P->E.mu fo so=some b->Qr E rest cargs->
   ∃rec:Loop,E.w.heap[b]?=some (.loop rec)/\cargs.length=rec.params.size/\
    RoundIn Fence.wide n P b rec.fn ((rec.params.zip (⟨cargs⟩:Array Value)).foldl (fun tmps (t,a)=>tmps.setIfInBounds t a) rec.tmps) rec.assign rec.body E.w (Qbq B F H E r H'))
def Qml:Code->Bool
 | .seq a b| .cond _ a b=>Qml a&&Qml b
 | .block _ b| .loop b| .scope b=>Qml b
 | .rangeFunc _ _ a b=>(Ys a).isEmpty&&(Ys b).isEmpty
 |_=>true
def Qab:Code->Bool
 | .region _ ops draw=>!draw||Qlz ops
 | .seq a b| .cond _ a b| .rangeFunc _ _ a b=>Qab a&&Qab b
 | .block _ b| .loop b| .scope b=>Qab b
 |_=>true
structure Qe2(P:Program)(pol:Pol):Prop where
 mixed:P.follows .mixedOrders=true
 draws:∀(f:FuncId) (F:Func) (c:Code),P.funcs[f]?=some F->F.body=some c->Qab c=true
 loops:∀(f:FuncId) (F:Func) (c:Code),P.funcs[f]?=some F->F.body=some c->(Ys c).Nodup/\Qml c=true
 num:∀(f:FuncId) (F:Func),P.funcs[f]?=some F->F.body.isSome=true->(F.name== "runtime.NumGoroutine")=false
 prim:∀f g,pol.prim f=some g->∀B F H E fr dst args cargs v x,Sim B F H E->fr<H.length->Qr E args cargs->g fr dst (Qd H) args=some (v,x)->
  Qay P f ⟨cargs⟩ E.w (Qbq B F H E (.ret v) (wr H x))
section
variable {P : Program} {pol : Pol} {C : Call} {B : Nat} {F : Nat -> Nat -> Prop} {fn fr N : Nat} {ro : Option Nat} {dp : Nat}
theorem Qay.mono{f:FuncId}{args:Array Value}{w:World}{R R' :Ending->World->Prop}(h:Qay P f args w R)(hr:∀e w',R e w' ->R' e w'):Qay P f args w R' :=by
 rcases h with⟨v,w',h1,h2⟩|⟨j,h1,h2⟩
 . exact .inl ⟨v,w',h1,hr _ _ h2⟩
 . exact .inr ⟨j,h1,h2.mono hr⟩
theorem Qe2.invokes(ok:Qe2 P pol){f:FuncId}{args:Array Value}{w:World}{R:Ending->World->Prop}(hf:∃(F:Func) (c:Code),P.funcs[f]?=some F/\F.body=some c)(h:Calls P f args w R):Qay P f args w R:=by obtain⟨Fn,c,h1,h2⟩:=hf;refine .inr ⟨f,?_,h⟩;have:=ok.num f Fn h1 (by rw[h2];rfl);simp only[callFunc,Zie,run_program,Zid,h1,this,Ze7,if_false,h2,Option.isNone_some,Zif]
theorem Qic(H:Qg)(w:Option (Nat×Nat×O)):(wr H w).length=H.length:=by
 cases w with
 |none=>rfl
 |some x=>obtain⟨f,s,o⟩:=x;exact Qa H f s o
theorem Sim.adoptMap{E:Env}{H:Qg}(S:Sim B F H E){f0 s0:Nat}(hf:f0<H.length)(hn:Qd H f0 s0=none){b clk:Nat}{ces:Array MapEntry}(hb:E.w.heap[b]?=some (.map ces clk))(hB:B<=b)
 (hfree:∀f s o,Qd H f s=some o->blk E f s o≠some b){es:List (V×V)}(hr:Js E es ces.toList):
 Ext H.length B E {E with mu:=upd E.mu f0 s0 (some b)}/\Sim B F (Qs H f0 s0 (.map es (ces.toList.map (·.born)) clk)) {E with mu:=upd E.mu f0 s0 (some b)}:=by
 have hmn:=S.mu_none hn;have X:Ext H.length B E {E with mu:=upd E.mu f0 s0 (some b)}:=by
  refine⟨Ze8 _,fun _ _ _ h=>h,fun _ _ _ _ h=>h,fun _ _ _ _ h=>h,?_,fun f s n b lo hi _ _ h=>⟨n,b,lo,hi,h,.inr ⟨rfl,rfl,rfl,rfl⟩⟩,fun _ _=>rfl,⟨rfl,rfl,rfl⟩,rfl,fun _ h=>h⟩;intro f s b' _ h;by_cases e:f=f0/\s=s0
  . rw[e.1,e.2,hmn] at h;cases h
  . exact(Zp _ _ e).trans h
 refine⟨X,S.step f0 s0 _ hf X (fun f s e=>Zp _ _ e) (by simp[Q0]) (fun f s e=>rfl) ?_ ?_ ?_ ?_ ?_ ?_⟩
 . intro n x h;have:=S.reg_none hn;simp only at h;rw[this] at h;cases h
 . exact fun f s o b e ho hb=>⟨rfl,fun i h=>h⟩
 . exact fun b i h=>S.fmod b i h
 . exact fun b i h=>S.modsz b i h
 . exact⟨b,ces,Q0 _ _ _ _,hB,hb,Js.mono X S.lt _ _ hr,rfl⟩
 . intro f s o b' e ho hb' h;simp only[blk,Q0,Zic] at h;subst h;exact hfree f s o ho hb'
theorem Qp4{f:V->Option V}{E E' :Env}(hf:∀x y v,f x=some y->Rel E x v->Rel E' y v):∀(es es' :List (V×V)) (ces:List MapEntry),Qls f es=some es' ->Js E es ces->Js E' es' ces
 |[],es',ces,h,r=>by cases h;exact r
 |(k,x)::es,es',ces,h,r=>by
  obtain⟨e,r',rfl,h1,h2,h3⟩:=r;simp only[Qls] at h;split at h
  . rename_i k' x' q q1 q2 q3;cases h;exact⟨e,r',rfl,hf _ _ _ q1 h1,hf _ _ _ q2 h2,Qp4 hf es q r' q3 h3⟩
  . cases h
theorem Sim.lift{E E1:Env}{H H1:Qg}{k:Nat}(S:Sim B F H E)(S1:Sim E.w.heap.size E.mod H1 E1)(X1:Ext k E.w.heap.size (AM.bare E.tab E.w E.mod) E1)(hlt:fr<H.length){dst:Option Nat}{v:V}{x:V×Nat×O}(h:Qes H1 fr dst H v=some x)
 {c:Value}(hc:Rel E1 v c):∃E2,E2.w=E1.w/\Ext H.length B E E2/\Sim B F (wr H (some (fr,x.2.1,x.2.2))) E2/\Rel E2 x.1 c:=by
 unfold Qes at h;split at h
 case h_5=>cases h
 case h_4=>
  rename_i d;split at h
  case h_2=>cases h
  rename_i hn;cases h;have hmn:=S.mu_none hn;have X:Ext H.length B E {E with w:=E1.w,mu:=upd E.mu fr d (some 0)}:=by
   refine⟨X1.size,X1.shape,fun b i v hm h=>X1.cell b i v hm h,fun b' i v _ hnm h=>hnm h,?_,fun f s n b lo hi _ _ h=>⟨n,b,lo,hi,h,.inr ⟨rfl,rfl,rfl,rfl⟩⟩,fun b hb=>X1.old b (Zfa hb S.bsz),X1.rest,rfl,X1.dfr⟩;intro f s b' _ h;by_cases e:f=fr/\s=d
   . rw[e.1,e.2,hmn] at h;cases h
   . exact(Zp _ _ e).trans h
  refine⟨{E with w:=E1.w,mu:=upd E.mu fr d (some 0)},rfl,X,S.step fr d _ hlt X (fun f s e=>Zp _ _ e) (by simp[Q0]) (fun f s e=>rfl) ?_ ?_ S.fmod ?_ trivial ?_,?_⟩
  . intro n' x h;obtain⟨_,q1,q2⟩:=S.nreg fr d n' x h;rw[hn] at q1;cases q1
  . exact fun f s o b' e ho hb=>⟨X1.old b' (S.blk_lt ho hb),fun i h=>h⟩
  . exact fun b' i h=>Zfa (S.modsz b' i h) X1.size
  . intro f s o b' e ho hb' h;cases h
  . simp only[Rel] at hc⊢;exact hc
 case h_3=>
  rename_i f s cs len esz d;split at h
  case h_2=>cases h
  rename_i n hn hm;split at h
  case isFalse=>cases h
  rename_i hp;obtain⟨rfl,hp⟩:=hp;cases h;simp only[Rel] at hc;obtain⟨b0,off,cap,vs,rfl,h1,hrow,hl,hlen,hmu,hreg⟩:=hc;obtain⟨b,lo,hi,c,T,z,g1,g2,g3,g4,g5,g6⟩:=S1.obj f s _ hm;obtain⟨_,q⟩:=hreg _ _ _ _ g1;obtain⟨rfl,rfl,rfl⟩:=q rfl;have hM1:∀b' i,(E.mod b' i\/(b' =b/\off+n*esz<=i/\i<off+cap*esz))->E1.mod b' i:=by
   rintro b' i (h|⟨rfl,h2,h3⟩)
   . exact S1.fmod b' i h
   . exact g5 i h2 h3
  have hmn:=S.mu_none hn;have hlt' :∀b' i v,E.w.cell? ⟨b',i,none⟩=some v->b' <E.w.heap.size:=by
   intro b' i v hcell;rcases Ze5 b' E.w.heap.size with h|h
   . exact h
   . have:E.w.heap[b']?=none:=Array.getElem?_eq_none h;simp[World.cell?,this] at hcell
  have X:Ext H.length B E {E with w:=E1.w,mod:=fun b' i=>E.mod b' i\/(b' =b/\off+n*esz<=i/\i<off+cap*esz),mu:=upd E.mu fr d (some b),reg:=upd E.reg fr d (some (n,b,off+n*esz,off+cap*esz))}:=by
   refine⟨X1.size,X1.shape,fun b i v hm h=>X1.cell b i v hm h,?_,?_,?_,fun b hb=>X1.old b (Zfa hb S.bsz),X1.rest,rfl,X1.dfr⟩
   . rintro b' i v hcell hnm (h|⟨rfl,_,_⟩)
     . exact hnm h
     . have:=hlt' _ _ _ hcell;omega
   . intro f s b' _ h;by_cases e:f=fr/\s=d
     . rw[e.1,e.2,hmn] at h;cases h
     . exact(Zp _ _ e).trans h
   . intro f s n' b' lo' hi' _ hs h;by_cases e:f=fr/\s=d
     . rw[e.1,e.2,hmn] at hs;cases hs
     . have h' :E.reg f s=some (n',b',lo',hi'):=(Zp _ _ e).symm.trans h;exact⟨n',b',lo',hi',h',.inr ⟨rfl,rfl,rfl,rfl⟩⟩
  refine⟨{E with w:=E1.w,mod:=fun b' i=>E.mod b' i\/(b' =b/\off+n*esz<=i/\i<off+cap*esz),mu:=upd E.mu fr d (some b),reg:=upd E.reg fr d (some (n,b,off+n*esz,off+cap*esz))},rfl,X,S.step fr d _ hlt X (fun f s e=>Zp _ _ e) (by simp[Q0]) (fun f s e=>Zp _ _ e) ?_ ?_ (fun b' i h=> .inl (S.fmod b' i h)) ?_ ?_ ?_,?_⟩
  . intro n' x h;simp only[Q0,Zic,Prod.mk.injEq] at h;rw[h.1];rfl
  . exact fun f s o b' e ho hb=>⟨X1.old b' (S.blk_lt ho hb),fun i h=> .inl h⟩
  . rintro b' i (h|⟨rfl,_,_⟩)
    . exact Zfa (S.modsz b' i h) X1.size
    . exact(Zfb.1 g3).1
  . exact⟨b,_,_,c,T,z,Q0 _ _ _ _,Ze9 S.bsz g2,g3,g4,fun i h2 h3=> .inr ⟨rfl,h2,h3⟩,g6⟩
  . intro f s o b' e ho hb' h;simp only[blk,Q0,Ze4,Zic] at h;subst h;have:=S.blk_lt ho hb';omega
  . simp only[Rel];refine⟨b,off,cap,vs,rfl,h1,?_,Qr.dress (E:=AM.bare E1.tab E1.w (fun b' i=>E.mod b' i\/(b' =b/\off+n*esz<=i/\i<off+cap*esz))) (E' :={E with w:=E1.w,mod:=fun b' i=>E.mod b' i\/(b' =b/\off+n*esz<=i/\i<off+cap*esz),mu:=upd E.mu fr d (some b),reg:=upd E.reg fr d (some (n,b,off+n*esz,off+cap*esz))}) rfl rfl _ _ hp (Qr.bare hM1 _ _ hp hl),hlen,by simp[Q0],?_⟩
    . intro i v hv;obtain⟨r1,r2⟩:=hrow i v hv;exact⟨r1,fun h=>r2 (hM1 _ _ h)⟩
    . intro n' b' lo' hi' h;simp only[Q0,Zic,Prod.mk.injEq] at h;obtain⟨rfl,rfl,rfl,rfl⟩:=h;exact⟨Ze8 _,fun _=>⟨rfl,rfl,rfl⟩⟩
 case h_2=>
  rename_i f s o len cap esz d;split at h
  case h_2=>cases h
  rename_i xs hn hm;split at h
  case isFalse=>cases h
  rename_i hp;cases h;simp only[Rel] at hc;obtain⟨b,c',T',n',hmu,rfl,h1,h2,h3,h4,h5⟩:=hc;obtain⟨b',c,T,vs,rest,g1,g2,g3,g4,g5,g6,g7⟩:=S1.obj f s _ hm;rw[hmu] at g1;cases g1;have hM1:∀b' i,(E.mod b' i\/b' =b)->E1.mod b' i:=by
   rintro b' i (h|rfl)
   . exact S1.fmod b' i h
   . exact g6 i
  have hmn:=S.mu_none hn;have hlt' :∀b' i v,E.w.cell? ⟨b',i,none⟩=some v->b' <E.w.heap.size:=by
   intro b' i v hcell;rcases Ze5 b' E.w.heap.size with h|h
   . exact h
   . have:E.w.heap[b']?=none:=Array.getElem?_eq_none h;simp[World.cell?,this] at hcell
  have X:Ext H.length B E {E with w:=E1.w,mod:=fun b' i=>E.mod b' i\/b' =b,mu:=upd E.mu fr d (some b)}:=by
   refine⟨X1.size,X1.shape,fun b i v hm h=>X1.cell b i v hm h,?_,?_,fun f s n b lo hi _ _ h=>⟨n,b,lo,hi,h,.inr ⟨rfl,rfl,rfl,rfl⟩⟩,fun b hb=>X1.old b (Zfa hb S.bsz),X1.rest,rfl,X1.dfr⟩
   . rintro b' i v hcell hnm (h|rfl)
     . exact hnm h
     . have:=hlt' _ _ _ hcell;omega
   . intro f s b' _ h;by_cases e:f=fr/\s=d
     . rw[e.1,e.2,hmn] at h;cases h
     . exact(Zp _ _ e).trans h
  refine⟨{E with w:=E1.w,mod:=fun b' i=>E.mod b' i\/b' =b,mu:=upd E.mu fr d (some b)},rfl,X,S.step fr d _ hlt X (fun f s e=>Zp _ _ e) (by simp[Q0]) (fun f s e=>rfl) ?_ ?_ (fun b' i h=> .inl (S.fmod b' i h)) ?_ ?_ ?_,?_⟩
  . intro n x h;have:=S.reg_none hn;simp only at h;rw[this] at h;cases h
  . exact fun f s o b' e ho hb=>⟨X1.old b' (S.blk_lt ho hb),fun i h=> .inl h⟩
  . rintro b' i (h|rfl)
    . exact Zfa (S.modsz b' i h) X1.size
    . exact(Zfb.1 g3).1
  . exact⟨b,c,T,vs,rest,Q0 _ _ _ _,Ze9 S.bsz g2,g3,g4,Qr.dress (E:=AM.bare E1.tab E1.w (fun b' i=>E.mod b' i\/b' =b)) (E' :={E with w:=E1.w,mod:=fun b' i=>E.mod b' i\/b' =b,mu:=upd E.mu fr d (some b)}) rfl rfl _ _ hp (Qr.bare hM1 _ _ hp g5),fun i=> .inr rfl,g7⟩
  . intro f s o b' e ho hb' h;simp only[blk,Q0,Zic] at h;subst h;have:=S.blk_lt ho hb';omega
  . simp only[Rel];exact⟨b,c',T',n',Q0 _ _ _ _,rfl,h1,h2,h3,h4,h5⟩
 rename_i f s d;split at h
 case h_2=>cases h
 rename_i es bs clk hn hm;cases hz:Qls (AM.frz (Qd H1) depth) es with
 |none=>rw[hz] at h;cases h
 |some es' =>
  rw[hz] at h;cases h;obtain⟨X,S'⟩:=S.behind X1;simp only[Rel] at hc;obtain⟨b,hb,rfl⟩:=hc;obtain⟨b',ces,g1,g2,g3,g4,g5⟩:=S1.obj f s _ hm;rw[hb] at g1;cases g1;subst g5;have hr:Js {E with w:=E1.w} es' ces.toList:=Qp4 (E:=E1) (fun x y v hf hx=>by
   obtain⟨h1,h2⟩:=S1.frz hf hx
   exact Rel.dress (E:=AM.bare E1.tab E1.w E.mod) (E' :={E with w:=E1.w}) rfl rfl _ _ h2 h1) _ _ _ hz g4
  obtain⟨X2,S2⟩:=S'.adoptMap hlt hn (b:=b) g3 (Ze9 S.bsz g2) (fun f s o ho hb' =>by
   have hb2:blk E f s o=some b:=by cases o<;>exact hb'
   have:=S.blk_lt ho hb2
   omega) hr
  refine⟨{E with w:=E1.w,mu:=upd E.mu fr d (some b)},rfl,X.trans X2,S2,?_⟩;simp only[Rel];exact⟨b,Q0 _ _ _ _,rfl⟩
theorem Qs8(ok:Qe2 P pol)(cs:Qb8 P C){f:FuncId}{args:List V}{H H' :Qg}{r:Rt}{E:Env}{cargs:List Value}
 {dst:Option Nat}(h:Zn pol C fn fr dst f args H=some (r,H'))(S:Sim B F H E)(htab:E.tab=Km P)(hlt:fr<H.length)(hr:Qr E args cargs):Qay P f ⟨cargs⟩ E.w (Qbq B F H E r H'):=by
 unfold Zn at h;split at h
 . rename_i g hg;cases hq:g fr dst (Qd H) args with
   |none=>rw[hq] at h;cases h
   |some x=>rw[hq] at h;cases h;exact ok.prim f g hg B F H E fr dst args cargs x.1 x.2 S hlt hr hq
 . split at h
   . split at h
     case h_2=>cases h
     rename_i ys hys;obtain⟨hr',_⟩:=Qgx depth hys hr;have main:∀(r0:Rt) (H1:Qg) (v v' :V) (mk:V->Rt),C f ys []=some (r0,H1)->r0=mk v->frz (Qd H1) depth v=some v' ->(mk= .ret\/mk= .pan)->
      Qay P f ⟨cargs⟩ E.w (Qbq B F H E (mk v') H):=by
      intro r0 H1 v v' mk hc hr0 hfz hmk;obtain⟨hbody,hall⟩:=cs.1 f ys [] r0 H1 hc;have hcall:=hall _ _ (bare E.tab E.w E.mod) cargs S.bare htab hr';refine ok.invokes hbody (hcall.mono ?_);rintro e w' ⟨E1,rfl,hrt,S1,X1,_⟩;obtain⟨X,S'⟩:=S.behind (E1:=E1) X1;refine⟨{E with w:=E1.w},rfl,?_,S',X,Ze8 _⟩;rcases hmk with rfl|rfl
      . subst hr0;obtain⟨c,he,hc⟩:=hrt;obtain⟨h1,h2⟩:=S1.frz hfz hc;exact⟨c,he,Rel.dress (E:=bare E1.tab E1.w E.mod) (E' :={E with w:=E1.w}) rfl rfl _ _ h2 h1⟩
      . subst hr0;obtain⟨c,he,hc⟩:=hrt;obtain⟨h1,h2⟩:=S1.frz hfz hc;exact⟨c,he,Rel.dress (E:=bare E1.tab E1.w E.mod) (E' :={E with w:=E1.w}) rfl rfl _ _ h2 h1⟩
     split at h
     . rename_i v H1 hc;cases hq:frz (Qd H1) depth v with
       |none=>rw[hq] at h;cases h
       |some v' =>rw[hq] at h;cases h;exact main _ H1 v v' .ret hc rfl hq (.inl rfl)
     . rename_i v H1 hc;cases hq:frz (Qd H1) depth v with
       |none=>rw[hq] at h;cases h
       |some v' =>rw[hq] at h;cases h;exact main _ H1 v v' .pan hc rfl hq (.inr rfl)
     . cases h
   . split at h
     . split at h
       case h_2=>cases h
       rename_i ys hys;obtain⟨hr',_⟩:=Qgx depth hys hr;split at h
       case h_2=>cases h
       rename_i v H1 hc;cases hq:Qes H1 fr dst H v with
       |none=>rw[hq] at h;cases h
       |some x=>
        rw[hq] at h;cases h;obtain⟨hbody,hall⟩:=cs.1 f ys [] _ H1 hc;have hcall:=hall _ _ (bare E.tab E.w E.mod) cargs S.bare htab hr';refine ok.invokes hbody (hcall.mono ?_);rintro e w' ⟨E1,rfl,⟨c,rfl,hcv⟩,S1,X1,_⟩;obtain⟨E2,hw,X2,S2,hr2⟩:=S.lift S1 X1 hlt hq hcv;exact⟨E2,hw,⟨c,rfl,hr2⟩,S2,X2,by rw[Qic];exact Ze8 _⟩
     split at h
     . split at h
       case h_2=>cases h
       rename_i ys hys;obtain⟨hr',_⟩:=Ju (E' :=bare E.tab E.w F) (fun x y v hf hx=>S.frz hf hx) _ _ _ hys hr;split at h
       case h_2=>cases h
       rename_i v H1 hc;cases hq:frzN (Qd H1) depth v with
       |none=>rw[hq] at h;cases h
       |some x=>
        rw[hq] at h;cases h;obtain⟨hbody,hall⟩:=cs.1 f ys [] _ H1 hc;have hcall:=hall _ _ (bare E.tab E.w F) cargs S.bareF htab hr';refine ok.invokes hbody (hcall.mono ?_);rintro e w' ⟨E1,rfl,⟨c,rfl,hcv⟩,S1,X1,_⟩;obtain⟨X,S'⟩:=S.behindM S.fmod X1;obtain⟨h1,h2⟩:=S1.frzN (M:=E.mod) S.modsz hq hcv;exact⟨{E with w:=E1.w},rfl,⟨c,rfl,Rel.dress (E:=bare E1.tab E1.w E.mod) (E' :={E with w:=E1.w}) rfl rfl _ _ h2 h1⟩,S',X,Ze8 _⟩
     split at h
     case h_2=>cases h
     rename_i ys hys;have hr' :Qr E ys cargs:=by
      unfold Qb0 at hys;split at hys
      . obtain⟨h1,h2⟩:=Qgx depth hys hr;exact Qr.dress (E:=bare E.tab E.w E.mod) (E' :=E) rfl rfl _ _ h2 h1
      . cases hys;exact hr
     replace h:=Qf2 (Qi5 fr h)
     obtain⟨hbody,hall⟩:=cs.1 f ys H r H' h;exact ok.invokes hbody (hall B F E cargs S htab hr')
def Qk1(N:Nat)(w:World)(ds:List Deferred):Prop:=
 ∃rs:List Nat,ds=rs.map (fun r=>({target:= .collected r,args:= #[]}:Deferred))/\rs.Nodup/\∀r∈rs,N<=r/\w.heap[r]?=some (Obj.deferred (some []))
theorem Qk1.nil{N:Nat}{w:World}:Qk1 N w []:=⟨[],rfl,List.nodup_nil,fun _ h=>by cases h⟩
theorem Qk1.on{N k B:Nat}{E E' :Env}{ds:List Deferred}(h:Qk1 N E.w ds)(X:Ext k B E E'):Qk1 N E'.w ds:=by obtain⟨rs,h1,h2,h3⟩:=h;exact⟨rs,h1,h2,fun r hr=>⟨(h3 r hr).1,X.dfr r (h3 r hr).2⟩⟩
structure St(B:Nat)(F:Nat->Nat->Prop)(fr N:Nat)(E:Env)(H:Qg)(t:List V)(a:Act):Prop where
 sim:Sim B F H E
 lt:fr<H.length
 rel:Qr E t a.tmps.toList
 defers:Qk1 N E.w a.defers
 nsz:N<=E.w.heap.size
def Qdq(B:Nat)(F:Nat->Nat->Prop)(fr N:Nat)(E0:Env)(ex:Ex)(t' :List V)(H' :Qg):Exit->Act->World->Prop:=
 fun e a' w' =>∃E',E'.w=w' /\Ext fr B E0 E' /\St B F fr N E' H' t' a' /\Qeb E' ex e
theorem St.ρ{E:Env}{H:Qg}{t:List V}{a:Act}(s:St B F fr N E H t a)(x:Operand):Rel E (rho t x) (a.eval x):=by
 cases x with
 |tmp i=>
  simp only[rho,Act.eval];cases hx:t[i]? with
  |none=>simp[List.getD,hx,Rel]
  |some x=>
   obtain⟨v,hv,hr⟩:=s.rel.get hx;have:a.tmps[i]?=some v:=by simpa using hv
   simpa [List.getD,hx,Zia,this] using hr
 |const v=>exact Bp E v
 |global g=>simp[rho,Rel]
 |func f=>simp only[rho,Act.eval,Rel];exact⟨[],[],rfl,.nil,.nil⟩
theorem St.put{E:Env}{H:Qg}{t:List V}{a:Act}(s:St B F fr N E H t a)(dst:Option Nat){v:V}{c:Value}(h:Rel E v c):St B F fr N E H (Z5 t dst v) (a.put dst c):=by
 cases dst with
 |none=>exact s
 |some d=>
  refine⟨s.sim,s.lt,?_,s.defers,s.nsz⟩;simp only[Z5,Act.put];have:=s.rel.set d h;simpa using this
theorem St.on{E E' :Env}{H H' :Qg}{t:List V}{a:Act}(s:St B F fr N E H t a)(X:Ext H.length B E E')(S' :Sim B F H' E')(hl:H.length<=H'.length):St B F fr N E' H' t a:=
 ⟨S',Zfa s.lt hl,Qr.mono X s.sim.lt _ _ s.rel,s.defers.on X,Ze9 s.nsz X.size⟩
theorem Qdt{mt:Nat->Bool}{g:Get}{r:Operand->V}{o:Oper}{st:Yv}(h:K0 P mt fr g r o=some st):∀c,o.op≠ .defer c:=by intro c e;simp only[K0,e] at h;cases h
theorem Qjx{o:Oper}{a:Act}{w:World}{next:Act->World->Prop}{Q:Exit->Act->World->Prop}(hd:∀c,o.op≠ .defer c)(h:o.uponIn (G ro) dp P a next Q ((execOp a.eval o).run P w)):o.wpIn (G ro) dp P a w next Q:=
 ⟨fun _ _=>trivial,by rw[Oper.semAt_eq _ _ _ hd];exact h⟩
theorem Qoc{n:Nat}:(G ro).depth.isSome=true->1<=n:=fun h=>by cases h
theorem Qhj(ok:Qe2 P pol)(cs:Qb8 P C){t t' :List V}{H H' :Qg}{o:Oper}{ex:Ex}{E0 E:Env}{a:Act}(h:J5 P pol C fn fr t H o=some (ex,t',H'))
 (X0:Ext fr B E0 E)(htab:E0.tab=Km P)(s:St B F fr N E H t a){next:Act->World->Prop}{Q:Exit->Act->World->Prop}
 (hn:ex= .normal->∀a' E',Ext fr B E0 E' ->St B F fr N E' H' t' a' ->next a' E'.w)
 (hq:ex≠ .normal->∀e a' w',Qdq B F fr N E0 ex t' H' e a' w' ->Q e a' w'):o.wpIn (G ro) dp P a E.w next Q:=by
 have htab1:E.tab=Km P:=X0.tab.trans htab;unfold J5 at h;split at h
 . cases h
 . rename_i v w hev;cases h;have:=Qgh s.sim s.lt (ρc:=a.eval) s.ρ hev;obtain⟨E',cv,X,S',hr,hrun⟩:=this;have s' :=(s.on X S' (by rw[Qic];exact Ze8 _)).put o.dst hr;have X' :=X0.trans (X.less (Zhr s.lt) (Ze8 _));refine Qjx (Qdt hev) ?_;rcases hrun with hrun|⟨hrun,rfl⟩
   . rw[hrun];exact hn rfl _ _ X' s'
   . rw[hrun];exact hn rfl _ _ X' s'
 . rename_i v hev;cases h;obtain⟨cv,hr,hrun⟩:=Qgh s.sim s.lt (ρc:=a.eval) s.ρ hev;refine Qjx (Qdt hev) ?_;rw[hrun];exact hq (fun e=>by cases e) _ _ _ ⟨E,rfl,X0,s,cv,rfl,hr⟩
 . rename_i f args hev;obtain⟨cargs,hr,hrun⟩:=Qgh s.sim s.lt (ρc:=a.eval) s.ρ hev;have main:∀r,Zn pol C fn fr o.dst f args H=some (r,H')->(∀e w',Qbq B F H E r H' e w' ->(match e with
    | .returned v=>next (a.put o.dst v) w'
    | .panicked chain=>Q (.panic chain) a w'
    | .outgrown=>False))->o.wpIn (G ro) dp P a E.w next Q:=by
    intro r hc hall;refine Qjx (Qdt hev) ?_;rw[hrun];rcases Qs8 ok cs hc s.sim htab1 s.lt hr with⟨v,w',h1,h2⟩|⟨j,h1,h2⟩
    . rw[h1];exact hall _ _ h2
    . rw[h1];refine⟨Qoc,(callsIn_wide (n:=dp-1)).2 ?_⟩;refine h2.mono ?_;intro e w' hA;have:=hall e w' hA;cases e with
      |returned v=>exact this
      |panicked chain=>exact this
      |outgrown=>exact this.elim
   split at h
   . rename_i v H1 hc;cases h;refine main _ hc ?_;rintro e w' ⟨E',rfl,⟨c,rfl,hcr⟩,S',X,hl⟩;exact hn rfl _ _ (X0.trans (X.less (Zhr s.lt) (Ze8 _))) ((s.on X S' hl).put o.dst hcr)
   . rename_i v H1 hc;cases h;refine main _ hc ?_;rintro e w' ⟨E',rfl,⟨c,rfl,hcr⟩,S',X,hl⟩;exact hq (fun e=>by cases e) _ _ _ ⟨E',rfl,X0.trans (X.less (Zhr s.lt) (Ze8 _)),s.on X S' hl,c,rfl,hcr⟩
   . cases h
 . rename_i fo so args hev;obtain⟨b,cargs,hb,hr,hrun⟩:=Qgh s.sim s.lt (ρc:=a.eval) s.ρ hev;split at h
   case h_2=>cases h
   rename_i v H1 hc;cases h;obtain⟨rec,h1,h2,h3⟩:=cs.2 fo so args H _ _ hc B F E b cargs (dp-1) s.sim htab1 hb hr;refine Qjx (Qdt hev) ?_;rw[hrun,run_yield h1 (by simpa using h2)];refine⟨Qoc,RoundIn.mono (F:=G ro) h3 ?_⟩;rintro e w' ⟨E',rfl,⟨c,rfl,hcr⟩,S',X,hl⟩;exact hn rfl _ _ (X0.trans (X.less (Zhr s.lt) (Ze8 _))) ((s.on X S' hl).put o.dst hcr)
theorem Qdv{E:Env}{H:Qg}{t:List V}{a:Act}(s:St B F fr N E H t a){ops:Array Oper}{o:Oper}{b:Bool}(h:Ba ops t o=some b):
 Region.wanted o (yielded ops a.tmps)=b:=by
 unfold Ba at h;unfold Region.wanted;split at h
 . rename_i hg;cases h;simp[hg]
 . rename_i j want hg;simp only[hg];split at h
   . rename_i c hb;cases h;unfold yielded;cases hd:(ops[j]?).bind (·.dst) with
     |none=>rw[hd] at hb;simp at hb
     |some d=>
      rw[hd] at hb;simp only[Zf4] at hb⊢;obtain⟨v,hv,hr⟩:=s.rel.get hb;simp only[Rel] at hr;subst hr;have:a.tmps[d]?=some (.bool c):=by simpa using hv
      rw[this];cases c<;>cases want<;>rfl
   . rename_i hb;cases h;unfold yielded;cases hd:(ops[j]?).bind (·.dst) with
     |none=>rw[hd] at hb;simp at hb
     |some d=>
      rw[hd] at hb;simp only[Zf4] at hb⊢;obtain⟨v,hv,hr⟩:=s.rel.get hb;simp only[Rel] at hr;obtain⟨vs,rfl,hl⟩:=hr;have:a.tmps[d]?=some (.tuple ⟨vs⟩):=by simpa using hv
      rw[this];cases want<;>rfl
   . cases h
theorem Qdx(ok:Qe2 P pol)(cs:Qb8 P C){ops:Array Oper}{E0:Env}:∀(l pre:List Oper) (t:List V) (H:Qg) (ex:Ex) (t' :List V) (H' :Qg) (E:Env) (a:Act),
 ops.toList=pre++l->Yr P pol C fn fr ops l t H=some (ex,t',H')->Ext fr B E0 E->E0.tab=Km P->St B F fr N E H t a->
 wpOpsIn (G ro) dp P ops (Qdq B F fr N E0 ex t' H') (List.range' pre.length l.length) a E.w
 |[],pre,t,H,ex,t',H',E,a,_,h,X0,htab,s=>by
  cases h;exact⟨E,rfl,X0,s,rfl⟩
 |o::l,pre,t,H,ex,t',H',E,a,he,h,X0,htab,s=>by
  have ho:ops[pre.length]?=some o:=by
   have:ops.toList[pre.length]?=some o:=by rw[he];simp
   simpa using this
  have he' :ops.toList=(pre++[o])++l:=by rw[he];simp
  simp only[Zgz,Zh5,wpOpsIn,ho];simp only[Yr] at h;split at h
  . cases h
  . rename_i hw;have:=Qdv s hw;rw[if_neg (by rw[this];decide)];refine⟨fun _ _=>trivial,?_⟩;have ih:=Qdx ok cs l (pre++[o]) _ _ _ _ _ E _ he' h X0 htab (s.put o.dst (v:=nov) (c:=undef) (by simp[Rel,Qr,undef]));simpa using ih
  . rename_i hw;have:=Qdv s hw;rw[if_pos this];split at h
    . rename_i t1 H1 hop;refine Qhj ok cs hop X0 htab s ?_ (fun hne=>absurd rfl hne);intro _ a' E' X' s';have ih:=Qdx ok cs l (pre++[o]) _ _ _ _ _ E' a' he' h X' htab s';simpa using ih
    . rename_i x hne;refine Qhj ok cs h X0 htab s ?_ (fun _ e a' w' hx=>hx);intro hex;subst hex;exact absurd h (by
       intro h'
       exact hne _ _ (by exact h'))
theorem Qjk(ok:Qe2 P pol)(cs:Qb8 P C){ops:Array Oper}{T:List FP}{E0:Env}:∀(l:List Nat) (t:List V) (H:Qg) (t' :List V) (H' :Qg) (E:Env) (a:Act),
 Qg3 P pol C fn fr ops T l t H=some (t',H')->Ext fr B E0 E->E0.tab=Km P->St B F fr N E H t a->wpOpsIn (G ro) dp P ops (Qdq B F fr N E0 .normal t' H') l a E.w
 |[],t,H,t',H',E,a,h,X0,htab,s=>by
  cases h;exact⟨E,rfl,X0,s,rfl⟩
 |i::l,t,H,t',H',E,a,h,X0,htab,s=>by
  simp only[Qg3] at h;split at h
  case h_2=>cases h
  rename_i t1 H1 hst;unfold Qbf at hst;split at hst
  . cases hst
  rename_i o ho;simp only[wpOpsIn,ho];split at hst
  . cases hst
  . rename_i hw;have:=Qdv s hw;rw[if_neg (by rw[this];decide)];refine⟨fun _ _=>trivial,?_⟩;split at hst
    . cases hst;exact Qjk ok cs l _ _ _ _ E _ h X0 htab (s.put o.dst (v:=nov) (c:=undef) (by simp[Rel,Qr,undef]))
    . cases hst
  . rename_i hw;have:=Qdv s hw;rw[if_pos this];split at hst
    case isFalse=>cases hst
    split at hst
    case h_2=>cases hst
    rename_i t2 H2 hop;cases hst;refine Qhj ok cs hop X0 htab s ?_ (fun hne=>absurd rfl hne);intro _ a' E' X' s';exact Qjk ok cs l _ _ _ _ E' a' h X' htab s'
theorem St.drawn{E:Env}{H:Qg}{t:List V}{a:Act}(s:St B F fr N E H t a):∃E',E'.w={E.w with drawn:=E.w.drawn+1}/\Ext fr B E E' /\St B F fr N E' H t a:=by
 have X1:Ext H.length E.w.heap.size (AM.bare E.tab E.w E.mod) {AM.bare E.tab E.w E.mod with w:={E.w with drawn:=E.w.drawn+1}}:=
  ⟨Ze8 _,fun _ _ _ h=>h,fun _ _ _ _ h=>h,fun _ _ _ _ h=>h,fun _ _ _ _ h=>h,fun f s n b lo hi _ _ h=>⟨n,b,lo,hi,h,.inr ⟨rfl,rfl,rfl,rfl⟩⟩,fun _ _=>rfl,⟨rfl,rfl,rfl⟩,rfl,fun _ h=>h⟩
 obtain⟨X,S⟩:=s.sim.behind X1;exact⟨_,rfl,X.less (Zhr s.lt) (Ze8 _),s.on X S (Ze8 _)⟩
theorem Qyb(ok:Qe2 P pol)(cs:Qb8 P C){ops:Array Oper}{id:Nat}{E0 E:Env}{t t' :List V}{H H' :Qg}{T:List FP}{a:Act}(hd:Qlz ops=true)
 (h:Jc P pol C fn fr ops ops.toList t H=some (t',H',T))(hok:okT (Region.before ops) (loud T)=true)(X:Ext fr B E0 E)(htab:E0.tab=Km P)(s:St B F fr N E H t a):
 (Code.region id ops true).wpIn (G ro) dp P (Qdq B F fr N E0 .normal t' H') a E.w:=by
 refine wpIn_region_draw fun tp=>?_;obtain⟨E',hw,X',s'⟩:=s.drawn;obtain⟨h1,h2⟩:=Qj8 ops.toList [] [] t H t' H' T (by simp) rfl h;have h3:=Qpj (P:=P) (pol:=pol) (C:=C) (fn:=fn) (fr:=fr) hd (by simpa using h1) hok (by simpa [Zh9] using h2) ok.mixed tp;rw[<-hw];exact Qjk ok cs _ _ _ _ _ E' a h3 (X.trans X') htab s'
end
open Go.ChangeMaps (setBlock)
section
variable {P : Program} {E : Env} {B : Nat} {F : Nat -> Nat -> Prop} {H : Qg} {fr N : Nat} {ro : Option Nat} {dp : Nat}
def Env.setIter(E:Env)(b:Nat)(mb:Option Nat)(since:Nat)(seen:Array Nat)(stepped d:Nat):Env:=
 {E with w:={E.w with heap:=E.w.heap.setIfInBounds b (.mapIter mb since seen stepped),drawn:=d}}
theorem Qa7(E:Env)(b:Nat)(mb:Option Nat)(since:Nat)(seen:Array Nat)(stepped d b' :Nat)(h:b' ≠b):(E.setIter b mb since seen stepped d).w.heap[b']?=E.w.heap[b']?:=by simp only[Env.setIter];rw[Zh6 (by omega)]
theorem Sim.setIter(S:Sim B F H E){f0 s0 b:Nat}{m:Option (Nat×Nat)}{since stepped:Nat}{seen:List Nat}(ho:Qd H f0 s0=some (.iter m since seen stepped))(hmu:E.mu f0 s0=some b){mb:Option Nat}
 (hb:E.w.heap[b]?=some (.mapIter mb since ⟨seen⟩ stepped))(hB:B<=b)(hm:match m with|none=>mb=none|some x=>∃r,mb=some r/\E.mu x.1 x.2=some r)(seen' :List Nat)(stepped' d:Nat):
 Ext H.length B E (E.setIter b mb since ⟨seen'⟩ stepped' d)/\Sim B F (Qs H f0 s0 (.iter m since seen' stepped')) (E.setIter b mb since ⟨seen'⟩ stepped' d):=by
 have hlt:b<E.w.heap.size:=(Zfb.1 hb).1;have hself:(E.setIter b mb since ⟨seen'⟩ stepped' d).w.heap[b]?=some (.mapIter mb since ⟨seen'⟩ stepped'):=by simp[Env.setIter,hlt]
 have hcell:∀i,E.w.cell? ⟨b,i,none⟩=none:=fun i=>by simp[World.cell?,hb]
 have X:Ext H.length B E (E.setIter b mb since ⟨seen'⟩ stepped' d):=by
  refine⟨by simp[Env.setIter],?_,?_,fun _ _ _ _ h=>h,fun _ _ _ _ h=>h,fun f s n b lo hi _ _ h=>⟨n,b,lo,hi,h,.inr ⟨rfl,rfl,rfl,rfl⟩⟩,?_,⟨rfl,rfl,rfl⟩,rfl,fun b' h=>by rw[Qa7 E b _ _ _ _ _ b' (by rintro rfl;rw[hb] at h;cases h)];exact h⟩
  . intro b' T n h;by_cases e:b' =b
    . subst e;simp[World.shape?,hb] at h
    . rw[Kr (Qa7 E b _ _ _ _ _ b' e)];exact h
  . intro b' i v _ h;by_cases e:b' =b
    . subst e;rw[hcell] at h;cases h
    . rw[K5 (Qa7 E b _ _ _ _ _ b' e)];exact h
  . intro b' hb';exact Qa7 E b _ _ _ _ _ b' (by omega)
 have hblk:blk E f0 s0 (.iter m since seen stepped)=some b:=hmu;refine⟨X,S.step f0 s0 _ (Q9 ho) X (fun f s e=>rfl) (by simp[Env.setIter,hmu]) (fun f s e=>rfl) ?_ ?_ ?_ ?_ ?_ ?_⟩
 . intro n x h;obtain⟨_,q1,q2⟩:=S.nreg f0 s0 n x h;rw[ho] at q1;cases q1;cases q2
 . intro f s o b' e ho' hb';refine⟨?_,fun i h=>h⟩;have hne:b' ≠b:=fun e' =>e (S.inj f s o f0 s0 _ b' ho' ho hb' (e' ▸hblk));exact Qa7 E b _ _ _ _ _ b' hne
 . exact fun b i h=>S.fmod b i h
 . intro b' i h;simp only[Env.setIter,Array.size_setIfInBounds];exact S.modsz b' i h
 . refine⟨b,mb,hmu,hB,hself,?_⟩;cases m with
   |none=>exact hm
   |some x=>exact hm
 . intro f s o b' e ho' hb' h;simp only[blk,Env.setIter,hmu,Zic] at h;subst h;exact e (S.inj f s o f0 s0 _ b ho' ho hb' hblk)
theorem Sim.over(S:Sim B F H E){f0 s0:Nat}{m:Option (Nat×Nat)}{since stepped:Nat}{seen:List Nat}(ho:Qd H f0 s0=some (.iter m since seen stepped)):Sim B F (Qs H f0 s0 .dead) E:=by
 refine S.step f0 s0 .dead (Q9 ho) (Ext.refl _ _ _) (fun f s e=>rfl) ?_ (fun f s e=>rfl) ?_ (fun f s o b e h1 h2=>⟨rfl,fun i h=>h⟩) S.fmod S.modsz trivial ?_
 . have:=S.dom f0 s0;rw[ho] at this;exact this.symm
 . intro n x h;obtain⟨_,q1,q2⟩:=S.nreg f0 s0 n x h;rw[ho] at q1;cases q1;cases q2
 . intro f s o b e h1 h2 h3;cases h3
theorem Qmo{seen:List Nat}:∀{es:List (V×V)} {ces:List MapEntry},Js E es ces->∀{ce:MapEntry},ce∈ces->seen.contains ce.born=false->
 ∃e∈Qc5 seen es (ces.map (·.born)),Rel E e.1.1 ce.key/\Rel E e.1.2 ce.val/\e.2=ce.born
 |[],ces,h,ce,hm,_=>by simp only[Js] at h;subst h;cases hm
 |(k,x)::es,ces,h,ce,hm,hs=>by
  obtain⟨c,r,rfl,h1,h2,h3⟩:=h;simp only[Zfn,Qc5];rcases Zfi.1 hm with rfl|hm
  . rw[if_neg (by rw[hs];decide)];exact⟨_,List.mem_cons_self,h1,h2,rfl⟩
  . obtain⟨e,he,q⟩:=Qmo h3 hm hs;split
    . exact⟨e,he,q⟩
    . exact⟨e,Zfj _ he,q⟩
theorem Qp0{seen:List Nat}:∀{es:List (V×V)} {ces:List MapEntry},Js E es ces->Qc5 seen es (ces.map (·.born))≠[]->∃ce∈ces,seen.contains ce.born=false
 |[],ces,h,hne=>by simp only[Js] at h;subst h;exact absurd rfl hne
 |(k,x)::es,ces,h,hne=>by
  obtain⟨c,r,rfl,h1,h2,h3⟩:=h;simp only[Zfn,Qc5] at hne;split at hne
  . obtain⟨ce,q1,q2⟩:=Qp0 h3 hne;exact⟨ce,Zfj _ q1,q2⟩
  . rename_i hs;exact⟨c,List.mem_cons_self,by simpa using hs⟩
theorem Q4o{g:Get}{x:V}{cs:List (V×Option (Nat×Nat×O))}(h:Qbh g x=some cs):cs≠[]:=by
 unfold Qbh at h
 repeat' split at h
 all_goals first|(cases h;done)|(cases h;simp;done)|skip
 rename_i hne;cases h;simpa using hne
theorem Qu6(S:Sim B F H E){x:V}{c:Value}{cs:List (V×Option (Nat×Nat×O))}(h:Qbh (Qd H) x=some cs)(hr:Rel E x c)(ty:TypeId):
 ∃p∈cs,∃E' cv,Ext H.length B E E' /\Sim B F (wr H p.2) E' /\Rel E' p.1 cv/\(Instr.next c false ty).run P E.w= .ok cv E'.w:=by
 have over:Rel E (.tuple [.bool false]) (.tuple #[.bool false]):=by simp only[Rel];exact⟨[.bool false],rfl,.cons (by simp[Rel]) .nil⟩
 unfold Qbh at h;split at h
 case h_2=>cases h
 rename_i f s;simp only[Rel] at hr;obtain⟨b,hb,rfl⟩:=hr;split at h
 case h_3=>cases h
 . rename_i since seen stepped hi;cases h;obtain⟨b',mb,g1,g2,g3,g4⟩:=S.obj f s _ hi;rw[hb] at g1;cases g1;simp only at g4;subst g4;refine⟨_,Zfx.2 rfl,E,_,Ext.refl _ _ _,S.over hi,over,?_⟩;simp[Instr.next,getObj,Sem.run,g3]
 . rename_i m since seen stepped hi;split at h
   case h_2=>cases h
   rename_i es bs clk hm;split at h
   case isFalse=>cases h
   rename_i hchk;rw[Zfr,decide_eq_true_eq] at hchk;obtain⟨hall,hst⟩:=hchk;obtain⟨b',mb,g1,g2,g3,g4⟩:=S.obj f s _ hi;rw[hb] at g1;cases g1;obtain⟨r,rfl,hr⟩:=g4;obtain⟨r',ces,k1,k2,k3,k4,k5⟩:=S.obj m.1 m.2 _ hm;rw[hr] at k1;cases k1;subst k5;have hold:∀x∈ces.toList,x.born<since:=by intro x hx;have:=Zf1.1 hall x.born (Zfm.2 ⟨x,hx,rfl⟩);exact of_decide_eq_true this
   rcases run_next_at (P:=P) E.w ty b r since stepped ⟨seen⟩ ces clk g3 k3 hold hst with⟨h0,hrun⟩|⟨e,he,w1,hw1,hrun⟩
   . have hnil:Qc5 seen es (ces.toList.map (·.born))=[]:=by
      apply Classical.byContradiction;intro hne;obtain⟨ce,q1,q2⟩:=Qp0 k4 hne;have:=Array.eq_empty_of_size_eq_zero h0;have hmem:ce∈(leftOf ces ⟨seen⟩):=by
       unfold leftOf;rw[Array.mem_filter];refine⟨Array.mem_toList_iff.1 q1,?_⟩;have:(⟨seen⟩:Array Nat).contains ce.born=false:=by simpa using q2
       rw[this];rfl
      rw[this] at hmem;simp at hmem
     rw[hnil] at h;cases h;exact⟨_,Zfx.2 rfl,E,_,Ext.refl _ _ _,S.over hi,over,hrun⟩
   . obtain⟨q1,q2⟩:=mem_left he;obtain⟨ae,p1,p2,p3,p4⟩:=Qmo k4 q1 (by simpa using q2);split at h
     . rename_i hnil;rw[hnil] at p1;cases p1
     . cases h;have hd:∃d,setBlock w1 b (.mapIter (some r) since ((⟨seen⟩:Array Nat).push e.born) clk)=(E.setIter b (some r) since ⟨seen++[e.born]⟩ clk d).w:=by
        have hp:(⟨seen⟩:Array Nat).push e.born=⟨seen++[e.born]⟩:=by simp
        rw[hp];rcases hw1 with rfl|rfl
        . exact⟨E.w.drawn,rfl⟩
        . exact⟨E.w.drawn+1,rfl⟩
       obtain⟨d,hd⟩:=hd;obtain⟨X,S'⟩:=S.setIter hi hb g3 g2 (m:=some m) ⟨r,rfl,hr⟩ (seen++[e.born]) clk d;refine⟨_,Zfm.2 ⟨ae,p1,rfl⟩,_,_,X,?_,?_,by rw[hrun,hd]⟩
       . simp only[wr,p4];exact S'
       . simp only[Rel];exact⟨[.bool true,e.key,e.val],rfl,.cons (by simp[Rel]) (.cons (Rel.mono X S.lt _ _ p2) (.cons (Rel.mono X S.lt _ _ p3) .nil))⟩
theorem Q6g{t:List V}{a:Act}(s:St B F fr N E H t a){o:Oper}{x:Operand}(hop:o.op= .next x false){cs:List (V×Option (Nat×Nat×O))}(hc:Qbh (Qd H) (rho t x)=some cs):
 ∃p∈cs,∃E' cv,Ext fr B E E' /\St B F fr N E' (wr H p.2) (Z5 t o.dst p.1) (a.put o.dst cv)/\∀(next:Act->World->Prop) (Q:Exit->Act->World->Prop),next (a.put o.dst cv) E'.w->o.wpIn (G ro) dp P a E.w next Q:=by
 obtain⟨p,hp,E',cv,X,S',hr,hrun⟩:=Qu6 (P:=P) s.sim hc (s.ρ x) o.type;refine⟨p,hp,E',cv,X.less (Zhr s.lt) (Ze8 _),(s.on X S' (by rw[Qic];exact Ze8 _)).put o.dst hr,?_⟩;intro next Q hn
 refine Qjx (fun c e=>by rw[hop] at e;cases e) ?_;have:(execOp a.eval o).run P E.w= .ok (.value cv) E'.w:=by unfold execOp;simp only[hop,Zie,hrun,Zid,Zif]
 rw[this];exact hn
theorem Sim.retell(S:Sim B F H E){f s:Nat}{xs xs' :List V}(ho:Qd H f s=some (.cells xs))(hr:∀vs,Qr E xs vs->Qr E xs' vs)(hs:xs'.all V.scalar=true):Sim B F (Qs H f s (.cells xs')) E:=by
 obtain⟨b,c,T,vs,rest,h1,h2,h3,h4,h5,h6,h7⟩:=S.obj f s _ ho;refine S.step f s _ (Q9 ho) (Ext.refl _ _ _) (fun f s e=>rfl) (by rw[h1];rfl) (fun f s e=>rfl) ?_ (fun f s o b e g1 g2=>⟨rfl,fun i h=>h⟩) S.fmod S.modsz ⟨b,c,T,vs,rest,h1,h2,h3,h4,hr vs h5,h6,hs⟩ ?_
 . intro n x h;obtain⟨_,q1,q2⟩:=S.nreg f s n x h;rw[ho] at q1;cases q1;cases q2
 . intro f' s' o b' e g1 g2 g3;have:blk E f s (.cells xs)=some b' :=g3;exact e (S.inj f' s' o f s _ b' g1 ho g2 this)
theorem Qr.set_of{xs:List V}:∀{vs:List Value} {o:Nat} {x y:V},Qr E xs vs->xs[o]?=some x->(∀v,Rel E x v->Rel E y v)->Qr E (xs.set o y) vs:=by
 induction xs with
 |nil=>intro vs o x y h hx;cases o<;>cases hx
 |cons a xs ih=>
  intro vs o x y h hx hy;obtain⟨v,r,rfl,h1,h2⟩:=Qr.cons_iff.1 h;cases o with
  |zero=>
   simp only[Zg8,Zic] at hx;subst hx;exact .cons (hy v h1) h2
  |succ o=>
   simp only[Zg9] at hx;exact .cons h1 (ih h2 hx hy)
theorem Q6y{xs:List V}(h:xs.all V.scalar=true){y:V}(hy:y.scalar=true)(o:Nat):(xs.set o y).all V.scalar=true:=by
 rw[Zf1] at h⊢;intro x hx;rcases Zgk hx with h1|rfl
 . exact h x h1
 . exact hy
theorem Qqu{t:List V}{a:Act}(s:St B F fr N E H t a){k:Nat}{H' :Qg}(h:Qfx t H k=some H'):
 ∃E',E'.w=E.w/\Ext H.length B E E' /\St B F fr N E' H' t a:=by
 have same:∃E',E'.w=E.w/\Ext H.length B E E' /\St B F fr N E' H t a:=⟨E,rfl,Ext.refl _ _ _,s⟩;unfold Qfx at h;split at h
 . rename_i f sl o _;split at h
   case h_2=>cases h
   rename_i xs hx;split at h
   . rename_i f1 s1 o1 len cap esz hxo;split at h
     case h_2=>cases h
     rename_i ys hy;split at h
     case isFalse=>cases h
     rename_i hc;obtain⟨hle,hp,hne⟩:=hc;cases h;obtain⟨b,c,T,vs,rest,g1,g2,g3,g4,g5,g6,g7,g8⟩:=s.sim.lies hy;obtain⟨X,S'⟩:=s.sim.die hy g1 g3 g2 E.w rfl (fun _ _=>rfl) g3 ⟨rfl,rfl,rfl⟩;have hx' :Qd (Qs H f1 s1 .dead) f sl=some (.cells xs):=by rw[B6 _ _ _ _ (Q9 hy),if_neg hne];exact hx
     have hxs:xs.all V.scalar=true:=by obtain⟨_,_,_,_,_,_,_,_,_,_,_,h7⟩:=s.sim.obj f sl _ hx;exact h7
     refine⟨{E with mod:=fun b' i=>E.mod b' i/\b' ≠b},rfl,X,?_⟩;have S2:=S'.retell hx' (xs' :=xs.set o (.iS ((ys.drop o1).take (len*esz)) len (cap==some len))) (fun vs' hr=>?_) (Q6y hxs rfl o)
     . exact s.on X S2 (by simp[Qa])
     . refine Qr.set_of hr hxo fun v hv=>?_;simp only[Rel] at hv⊢;obtain⟨b',c',T',n',q1,rfl,q2,q3,q4,_⟩:=hv;have q1' :E.mu f1 s1=some b' :=q1;rw[g1] at q1';cases q1';refine⟨_,c',(vs.drop o1).take (len*esz),rfl,q2,?_,.inr ⟨rfl,?_⟩,Qr.mono X s.sim.lt _ _ ((g5.drop o1).take _),Qjm (Qjv hp _) _⟩
       . intro hcap;have:cap=some len:=by simpa using hcap
         exact q3 len this
       . exact fun i v hv=>⟨g8.from o1 _ i v hv,fun hm=>hm.2 rfl⟩
   . cases h;exact same
   . cases h
 . cases h;exact same
 . cases h;exact same
 . cases h
theorem Qix{t:List V}{a:Act}:∀{ks:List Nat} {E:Env} {H:Qg},St B F fr N E H t a->∀{H' :Qg},Bc ks t H=some H' ->∃E',E'.w=E.w/\Ext fr B E E' /\St B F fr N E' H' t a
 |[],E,H,s,H',h=>by cases h;exact⟨E,rfl,Ext.refl _ _ _,s⟩
 |k::ks,E,H,s,H',h=>by
  simp only[Bc] at h;split at h
  . rename_i H1 h1;obtain⟨E1,w1,X1,s1⟩:=Qqu s h1;obtain⟨E2,w2,X2,s2⟩:=Qix s1 h;exact⟨E2,w2.trans w1,(X1.less (Zhr s.lt) (Ze8 _)).trans X2,s2⟩
  . cases h
end
end Go.AM
end
