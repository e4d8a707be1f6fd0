/- This file holds in one the texts PR7; each says at its head what it proves. -/
import Derived.Test.YtpdimkonjmoadaaGreatDoorT19
import Derived.Test.YtpdimkonjmoadaaGreatDoorT27
import Derived.Test.YtpdimkonjmoadaaGreatDoorT28
import Derived.Test.YtpdimkonjmoadaaGreatDoorT33
set_option linter.unusedSimpArgs false
set_option linter.unusedVariables false
namespace Go.Proofs.YtpdimkonjmoadaaGreatDoor
section
set_option maxRecDepth 100000
open Go.AM
theorem Q8q{g:Get}{n:Nat}{v:V}(h:frz g (n+1) v=some (.bool true)):v= .bool true:=by
 cases v with
 |bool b=>simp only[frz] at h;cases h;rfl
 |_=>exfalso;simp only[frz] at h;revert h;(repeat' split)<;>simp
theorem Zb7{P:Program}{pol:Pol}{f:FuncId}{xs:List V}(h:Fz P pol f xs fun r=>r= .bool true):∃H',Qq P pol f xs []=some (.ret (.bool true),H'):=by obtain⟨v,H',v',h1,h2,rfl⟩:=h;exact⟨H',by rw[h1,Q8q h2]⟩
theorem okR:Okay Tp Qg6:=Zd7 Q5d
theorem Q36{n:Nat}{y:V}(h:Qfs Tp n 3 y):∃m,y= .int .i64 m:=by unfold Qfs at h;rw[Zu3] at h;obtain⟨m,h⟩:=Zx Zu3 h;exact⟨m,(List.cons.inj h).1⟩
theorem Qot{n:Nat}:∀ys:List (List V),(∀y∈ys,Zz Tp n 64 y)->∃l:List Yj,l.length=ys.length/\Xi ys.flatten l/\∀p∈l,p.Fits
 |[],_=>⟨[],rfl,rfl,fun _ h=>by cases h⟩
 |y::ys,h=>by
  obtain⟨l,h1,h2,h3⟩:=Qot ys fun z hz=>h z (Zp0 _ hz);obtain⟨bv,wv,sv,mv,lv,kv,ov,cv,x,rfl,h4,h5⟩:=Q19 (h y (by simp));exact⟨x::l,by simp[h1],⟨bv,wv,sv,mv,lv,kv,ov,cv,_,rfl,h4,h2⟩,Zsr.2 ⟨h5,h3⟩⟩
theorem Q1i{n:Nat}{xs:List V}(h:Zz Tp n 27 xs):∃pv tv dv X,xs=Qt pv tv dv X.spent/\Yu pv tv dv X/\X.Fits:=by
 cases n with
 |zero=>exact h.elim
 |succ n=>
  unfold Zz at h;rw[Tryz.underlying27] at h;simp only[Kh,Zp4,Zp5] at h;obtain⟨x1,r1,a1,⟨x2,r2,a2,⟨x3,r3,a3,e4,rfl⟩,rfl⟩,rfl⟩:=h;subst e4;obtain⟨pv,m,ys,rfl,h1,h2,h3⟩:=Qb2 Zu6 a1;obtain⟨l,h5,h4,h6⟩:=Qot ys h2;obtain⟨tv,st,rfl,h7,h8⟩:=Qcw a2;cases n with
  |zero=>exact a3.elim
  |succ n=>
   unfold Zz at a3;rw[Tryz.underlying25] at a3;simp only[Kh,Zp4,Zp5] at a3;obtain⟨y1,s1,b1,⟨y2,s2,b2,e3,rfl⟩,rfl⟩:=a3;subst e3;obtain⟨dv,sd,rfl,h9,h10⟩:=Qcw b1;obtain⟨sp,rfl⟩:=Zx Zu3 b2;have hs:=Qnk (esz:=19) h3 (by rw[h4.len,h5]);rw[<-h5] at hs;exact⟨pv,tv,dv,⟨l,st,sd,sp⟩,rfl,⟨⟨_,h4,hs⟩,h7,h9⟩,⟨h6,by show l.length<=Xc;omega,h8,h10⟩⟩
theorem Zal{n:Nat}{y:V}(h:Qfs Tp n 27 y):∃pv tv dv X,y= .agg (Qt pv tv dv X.spent)/\Yu pv tv dv X/\X.Fits:=by unfold Qfs at h;rw[Tryz.underlying27] at h;obtain⟨cs,rfl,h⟩:=h;obtain⟨pv,tv,dv,X,rfl,h1,h2⟩:=Q1i h;exact⟨pv,tv,dv,X,rfl,h1,h2⟩
theorem Qyp:∀{l:List Yj} {cs:List V},Xi cs l->wtL cs<=1048576->l.length<=wtL cs/\∀p∈l,Q32 p
 |[],cs,h,_=>by
  have:cs=[]:=h;subst this;exact⟨Zpp _,fun _ h=>by cases h⟩
 |x::l,_,⟨bv,wv,sv,mv,lv,kv,ov,cv,d,e,h1,h2⟩,hb=>by
  subst e;rw[Qea] at hb⊢;obtain⟨a,b⟩:=Qyp h2 (by omega);have c:=Q8z h1 (by omega);have e1:wtL (Qy bv wv sv mv lv kv ov cv x.p)=wt bv+wt wv+wt sv+wt mv+wt lv+wt kv+wt ov+wt cv+11:=by simp only[Qy,wtL,wt];omega
  refine⟨by rw[Zq2];omega,Zsr.2 ⟨c,b⟩⟩
theorem Qzg:∀xs,Qlg Tp [27,3,3] xs->wtL xs<=1048576->∃H',Qq Tp Qg6 (some 3) xs []=some (.ret (.bool true),H'):=by
 intro xs h hb;obtain⟨n1,y1,r1,a1,⟨n2,y2,r2,a2,⟨n3,y3,r3,a3,rfl,rfl⟩,rfl⟩,rfl⟩:=h;obtain⟨pv,tv,dv,X,rfl,h1,h2⟩:=Zal a1;obtain⟨a,rfl⟩:=Q36 a2;obtain⟨b,rfl⟩:=Q36 a3;obtain⟨cs,hcs,hsl⟩:=h1.pools;have b1:=Qjf hsl;have b2:=Qes h1.stream;have b3:=Qes h1.seed;have hw:wt pv+wt tv+wt dv<=1048576:=by simp only[Qt,wtL,wt] at hb;omega
 obtain⟨c1,c2⟩:=Qyp hcs (by omega);exact Zb7 (Zbc h1 h2 ⟨c2,by omega,by omega,by omega⟩ a b)
end
end Go.Proofs.YtpdimkonjmoadaaGreatDoor
