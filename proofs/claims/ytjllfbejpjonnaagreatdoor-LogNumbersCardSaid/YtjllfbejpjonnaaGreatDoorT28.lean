/- This file holds in one the texts LN15, LN16, LN17, LN18, LN19, LN20, LN21, LN22; each says at its head what it proves. -/
import Derived.Test.YtjllfbejpjonnaaGreatDoorT18
import Derived.Test.YtjllfbejpjonnaaGreatDoorT22
import Derived.Test.YtjllfbejpjonnaaGreatDoorT26
import Derived.Test.YtjllfbejpjonnaaGreatDoorT27
set_option linter.unusedSimpArgs false
set_option linter.unusedVariables false
section
set_option maxRecDepth 100000
namespace Go.Proofs.YtjllfbejpjonnaaGreatDoor
open Go.AM
attribute [local irreducible] U W
theorem Qbg:∀{ls:List Qp} {ds:List (List UInt8)} {cs:List V},Qo cs ls ds->cs.length=ls.length*12
 |[],[],cs,h=>by
  have:cs=[]:=h;subst this;rfl
 |[],_::_,_,h=>h.elim
 |_::_,[],_,h=>h.elim
 |c::ls,_::ds,_,⟨dv,d,e,_,_,h⟩=>by
  subst e;rw[Zom,Qbg h];simp[Ql];omega
abbrev twF(pc z c75:List V)(ol oc ok oo:O):AM.Frame:=[(1,.cells pc),(2,.cells z),(18,ol),(21,oc),(65,ok),(68,oo),(75,.cells c75)]
theorem Q9d(C:AM.Frame)(a pc z c75:List V)(ol ok oo:O)(bv wv sv mv lw kw ow cw:V)(p:Kx)(id many e:Int)(l:List Qp)(ds:List (List UInt8))(cs:List V)(cap:Option Nat)(hc:Qo cs l ds)(hl:l.length<=65536)
 (hW5:WF [C,[(2,.cells a),(14,.cells (Qx (Qf bv wv sv mv lw kw ow cw p) id many e))],twF pc z c75 ol (.cells cs) ok oo,[(1,.cells [.ptr 1 14 0])],[]])
 (hW:WF [C,[(2,.cells a),(14,.cells (Qx (Qf bv wv sv mv lw kw ow cw p) id many e))],twF pc z c75 ol (.cells cs) ok oo,[(1,.cells [.ptr 1 14 0])],[],[]]):
 CW Tp Qg 62 [.mS 2 21 0 l.length cap 12,.func (.func 22) [] [.ptr 3 1 0]] [C,[(2,.cells a),(14,.cells (Qx (Qf bv wv sv mv lw kw ow cw p) id many e))],twF pc z c75 ol (.cells cs) ok oo,[(1,.cells [.ptr 1 14 0])],[]] fun r H=>r= .ret (.int .i64 (Q8 (Xw id) 0 l))/\H=[C,[(2,.cells a),(14,.cells (Qx (Qf bv wv sv mv lw kw ow cw p) id many e))],twF pc z c75 ol (.cells cs) ok oo,[(1,.cells [.ptr 1 14 0])],[]]:=by
 refine Zu Tryz.func62 rfl ?_;have len:∀g,Ku Tp g 34 (.mS 2 21 0 l.length cap 12)=some (.int .i64 l.length):=Qk5 Zu2;have hcl:=Qbg hc;have hcall:∀i,(h:i<l.length)->∀dv,Qe dv (ds.getD i [])->l[i].n=(ds.getD i []).length->∀d,callOp Qg (Qn Tp Qg) 62 5 d 22 [.agg (Ql l[i] dv),.ptr 3 1 0] [C,[(2,.cells a),(14,.cells (Qx (Qf bv wv sv mv lw kw ow cw p) id many e))],twF pc z c75 ol (.cells cs) ok oo,[(1,.cells [.ptr 1 14 0])],[],[]]=some (.ret (.bool (Xw id l[i])),[C,[(2,.cells a),(14,.cells (Qx (Qf bv wv sv mv lw kw ow cw p) id many e))],twF pc z c75 ol (.cells cs) ok oo,[(1,.cells [.ptr 1 14 0])],[],[]]):=fun i h dv h1 h2 d=>by obtain⟨r,H',e1,rfl,rfl⟩:=Q42 C (twF pc z c75 ol (.cells cs) ok oo) a bv wv sv mv lw kw ow cw p id many e l[i] dv _ h1 h2 hW;exact Za rfl rfl rfl e1
 generalize hj:Qx (Qf bv wv sv mv lw kw ow cw p) id many e=jc at*;have pop:∀x:Int,Yk 5 (.int .i64 x) [C,[(2,.cells a),(14,.cells jc)],twF pc z c75 ol (.cells cs) ok oo,[(1,.cells [.ptr 1 14 0])],[],[]]=[C,[(2,.cells a),(14,.cells jc)],twF pc z c75 ol (.cells cs) ok oo,[(1,.cells [.ptr 1 14 0])],[]]:=fun x=>Zf (H:=[C,[(2,.cells a),(14,.cells jc)],twF pc z c75 ol (.cells cs) ok oo,[(1,.cells [.ptr 1 14 0])],[]]) (G:=[[]]) (v:= .int .i64 x) rfl hW5;simp only[wX,↓Qc,simprocAttr,Tryz.ntmps62,len];refine W.ul ?_;refine W.loopS (kt:=[0,1,7,8]) rfl (fun i:Nat=>Ql4 (.mS 2 21 0 l.length cap 12) (.func (.func 22) [] [.ptr 3 1 0]) (.int .i64 l.length) (.int .i64 i)) (fun _=>[C,[(2,.cells a),(14,.cells jc)],twF pc z c75 ol (.cells cs) ok oo,[(1,.cells [.ptr 1 14 0])],[],[]]) (fun i=>i<=l.length/\Q8 (Xw id) i (l.drop i)=Q8 (Xw id) 0 l) (fun i=>l.length-i) ?_ 0 ⟨by omega,rfl⟩ rfl rfl;rintro i ⟨hi,hR⟩;simp only[Ql4];by_cases h:i<l.length
 . have c1:decide ((i:Int)<l.length)=true:=Zrh (by omega);have at1:=Qir (P:=Tp) Zu2 Qdq (f:=2) (s:=21) (o:=0) (len:=l.length) (cap:=cap) (k:= .i64) (i:=(i:Int)) (by omega) (by omega);have st:(0+(i:Int).toNat*12)=i*12:=by omega
   rw[st] at at1;obtain⟨dv,q0,h2,q1,q2⟩:=hc.at2 h;have rdc:Q3 Tp 43 cs (i*12)=some (.agg (Ql l[i] dv)):=by rw[Quz,if_pos (by omega),q0]
   have w1:(IntKind.i64).wrap ((i:Int)+1)=((i+1:Nat):Int):=by rw[wrap_i64]<;>omega
   have eg:ds.getD i []=ds[i]:=by rw[Zq7,Zn1 h2];rfl
   have hcall1:=hcall i h dv (by rw[eg];exact q1) (by rw[eg];exact q2);have hS:Q8 (Xw id) i (l.drop i)=if Xw id l[i] then(i:Int) else Q8 (Xw id) (i+1) (l.drop (i+1)):=by rw[Zqt h];rfl
   rw[hR] at hS;have sdv:=Q4 q1;simp only[wX,↓Qc,simprocAttr,c1,at1,rdc,hcall1,sdv];refine W.ite ?_ ?_<;>intro h2<;>simp only[wA,↓Qc,simprocAttr,ta,wH,w1]
   . refine W.done ?_;simp only[wA,↓Qc,simprocAttr];refine W.done (End.ret (v:= .int .i64 (Q8 (Xw id) 0 l)) ?_ ⟨rfl,pop _⟩);rw[hS,h2];rfl
   . refine W.done ⟨i+1,rfl,rfl,⟨by omega,?_⟩,by omega⟩;rw[hS,h2];rfl
 . have c1:decide ((i:Int)<l.length)=false:=Zri (by omega);simp only[wA,↓Qc,simprocAttr,c1];refine W.done ?_;simp only[wA,↓Qc,simprocAttr];refine W.done (End.ret (v:= .int .i64 (Q8 (Xw id) 0 l)) ?_ ⟨rfl,pop _⟩);rw[<-hR,Zqe (by omega)];rfl
theorem Q4j(C:AM.Frame)(a pc z c75:List V)(ol ok oo:O)(bv wv sv mv lw kw ow cw:V)(p:Kx)(id many e:Int)(l:List Qp)(ds:List (List UInt8))(cs:List V)(cap:Option Nat)(hc:Qo cs l ds)(hl:l.length<=65536)
 (hW4:WF [C,[(2,.cells a),(14,.cells (Qx (Qf bv wv sv mv lw kw ow cw p) id many e))],twF pc z c75 ol (.cells cs) ok oo,[(1,.cells [.ptr 1 14 0])]])
 (hW5:WF [C,[(2,.cells a),(14,.cells (Qx (Qf bv wv sv mv lw kw ow cw p) id many e))],twF pc z c75 ol (.cells cs) ok oo,[(1,.cells [.ptr 1 14 0])],[]])
 (hW:WF [C,[(2,.cells a),(14,.cells (Qx (Qf bv wv sv mv lw kw ow cw p) id many e))],twF pc z c75 ol (.cells cs) ok oo,[(1,.cells [.ptr 1 14 0])],[],[]]):
 CW Tp Qg 23 [.mS 2 21 0 l.length cap 12,.func (.func 22) [] [.ptr 3 1 0]] [C,[(2,.cells a),(14,.cells (Qx (Qf bv wv sv mv lw kw ow cw p) id many e))],twF pc z c75 ol (.cells cs) ok oo,[(1,.cells [.ptr 1 14 0])]] fun r H=>r= .ret (.bool (l.any (Xw id)))/\H=[C,[(2,.cells a),(14,.cells (Qx (Qf bv wv sv mv lw kw ow cw p) id many e))],twF pc z c75 ol (.cells cs) ok oo,[(1,.cells [.ptr 1 14 0])]]:=by
 refine Zu Tryz.func23 rfl ?_;obtain⟨r,H',e1,e2,rfl⟩:=Q9d C a pc z c75 ol ok oo bv wv sv mv lw kw ow cw p id many e l ds cs cap hc hl hW5 hW;subst e2;have hcall:∀d,callOp Qg (Qn Tp Qg) 23 4 d 62 [.mS 2 21 0 l.length cap 12,.func (.func 22) [] [.ptr 3 1 0]] [C,[(2,.cells a),(14,.cells (Qx (Qf bv wv sv mv lw kw ow cw p) id many e))],twF pc z c75 ol (.cells cs) ok oo,[(1,.cells [.ptr 1 14 0])],[]]=_:=fun d=>Za rfl rfl rfl e1;generalize hj:Qx (Qf bv wv sv mv lw kw ow cw p) id many e=jc at*;have pop:∀x:Bool,Yk 4 (.bool x) [C,[(2,.cells a),(14,.cells jc)],twF pc z c75 ol (.cells cs) ok oo,[(1,.cells [.ptr 1 14 0])],[]]=[C,[(2,.cells a),(14,.cells jc)],twF pc z c75 ol (.cells cs) ok oo,[(1,.cells [.ptr 1 14 0])]]:=fun x=>Zf (H:=[C,[(2,.cells a),(14,.cells jc)],twF pc z c75 ol (.cells cs) ok oo,[(1,.cells [.ptr 1 14 0])]]) (G:=[[]]) (v:= .bool x) rfl hW4;simp only[wX,↓Qc,simprocAttr,Tryz.ntmps23,hcall,Qhz];exact W.done (End.ret (v:= .bool (l.any (Xw id))) rfl ⟨rfl,pop _⟩)
end Go.Proofs.YtjllfbejpjonnaaGreatDoor
namespace Go.Proofs.YtjllfbejpjonnaaGreatDoor
open Go.AM
attribute [local irreducible] U W
theorem Q6r(A B C D:AM.Frame)(g:V)(hg:g= .func (.func 22) [] [.ptr 3 1 0])(hW:WF [A,B,C,D,[]]):
 CW Tp Qg 62 [.nS,g] [A,B,C,D,[]] fun r H=>r= .ret (.int .i64 (-1))/\H=[A,B,C,D,[]]:=by
 refine Zu Tryz.func62 rfl ?_;have len:∀g,Ku Tp g 34 .nS=some (.int .i64 0):=fun g=>Ql9 Zu2;have pop:∀x:Int,Yk 5 (.int .i64 x) [A,B,C,D,[],[]]=[A,B,C,D,[]]:=fun x=>Zf (H:=[A,B,C,D,[]]) (G:=[[]]) (v:= .int .i64 x) rfl hW;simp only[wX,↓Qc,simprocAttr,Tryz.ntmps62,len];refine W.ul ?_;refine W.loopS (kt:=[0,1,7,8]) rfl (fun i:Nat=>Ql4 .nS g (.int .i64 0) (.int .i64 0)) (fun _=>[A,B,C,D,[],[]]) (fun i=>True) (fun i=>0) ?_ 0 trivial rfl rfl;rintro i-;simp only[Ql4];have c1:decide ((0:Int)<0)=false:=rfl;simp only[wA,↓Qc,simprocAttr,c1];refine W.done ?_;simp only[wA,↓Qc,simprocAttr];exact W.done (End.ret (v:= .int .i64 (-1)) rfl ⟨rfl,pop _⟩)
theorem Q03(A B C D:AM.Frame)(g:V)(hg:g= .func (.func 22) [] [.ptr 3 1 0])(hW4:WF [A,B,C,D])(hW:WF [A,B,C,D,[]]):
 CW Tp Qg 23 [.nS,g] [A,B,C,D] fun r H=>r= .ret (.bool false)/\H=[A,B,C,D]:=by
 refine Zu Tryz.func23 rfl ?_;obtain⟨r,H',e1,e2,rfl⟩:=Q6r A B C D g hg hW;subst e2;have hcall:∀d,callOp Qg (Qn Tp Qg) 23 4 d 62 [.nS,g] [A,B,C,D,[]]=_:=fun d=>Za rfl rfl rfl e1;have pop:∀x:Bool,Yk 4 (.bool x) [A,B,C,D,[]]=[A,B,C,D]:=fun x=>Zf (H:=[A,B,C,D]) (G:=[[]]) (v:= .bool x) rfl hW4;have c1:decide ((-1:Int)>=0)=false:=rfl;simp only[wX,↓Qc,simprocAttr,Tryz.ntmps23,hcall,c1];exact W.done (End.ret (v:= .bool false) rfl ⟨rfl,pop _⟩)
end Go.Proofs.YtjllfbejpjonnaaGreatDoor
namespace Go.Proofs.YtjllfbejpjonnaaGreatDoor
open Go.AM
attribute [local irreducible] U W
theorem Qwr(C:AM.Frame)(a:List V)(bv wv sv mv lw kw ow cw:V)(p:Kx)(id many e:Int)(he:e≠0)(hW:WF [C,[(2,.cells a),(14,.cells (Qx (Qf bv wv sv mv lw kw ow cw p) id many e))]]):
 CW Tp Qg 11 [.ptr 1 14 0] [C,[(2,.cells a),(14,.cells (Qx (Qf bv wv sv mv lw kw ow cw p) id many e))]] fun r H=>r= .ret (.tuple [])/\H=[C,[(2,.cells a),(14,.cells (Qx (Qf bv wv sv mv lw kw ow cw p) id many e))]]:=by
 refine Zu Tryz.func11 rfl ?_;have c1:(e !=0)=true:=by simpa using he
 simp only[Qx,Qf,Zo8,Zpu] at hW⊢;have pop:∀(X:AM.Frame),Yk 2 (.tuple []) [C,[(2,.cells a),(14,.cells _)],X]=_:=fun X=>Zf (G:=[X]) (v:= .tuple []) rfl hW;simp only[wX,↓Qc,simprocAttr,Tryz.ntmps11,c1];exact W.done (End.ret (v:= .tuple []) rfl ⟨rfl,pop _⟩)
theorem Qx0(C F2:AM.Frame)(a:List V)(bv wv sv mv lw kw ow cw:V)(p:Kx)(id many e:Int)(he:e≠0)(hW:WF [C,[(2,.cells a),(14,.cells (Qx (Qf bv wv sv mv lw kw ow cw p) id many e))],F2]):
 CW Tp Qg 11 [.ptr 1 14 0] [C,[(2,.cells a),(14,.cells (Qx (Qf bv wv sv mv lw kw ow cw p) id many e))],F2] fun r H=>r= .ret (.tuple [])/\H=[C,[(2,.cells a),(14,.cells (Qx (Qf bv wv sv mv lw kw ow cw p) id many e))],F2]:=by
 refine Zu Tryz.func11 rfl ?_;have c1:(e !=0)=true:=by simpa using he
 simp only[Qx,Qf,Zo8,Zpu] at hW⊢;have pop:∀(X:AM.Frame),Yk 3 (.tuple []) [C,[(2,.cells a),(14,.cells _)],F2,X]=_:=fun X=>Zf (G:=[X]) (v:= .tuple []) rfl hW;simp only[wX,↓Qc,simprocAttr,Tryz.ntmps11,c1];exact W.done (End.ret (v:= .tuple []) rfl ⟨rfl,pop _⟩)
theorem Qvf(C:AM.Frame)(a:List V)(bv wv sv mv lw kw ow cw:V)(p:Kx)(id many e:Int)(he:e≠0)(hW:WF [C,[(2,.cells a),(14,.cells (Qx (Qf bv wv sv mv lw kw ow cw p) id many e))]]):
 CW Tp Qg 12 [.ptr 1 14 0] [C,[(2,.cells a),(14,.cells (Qx (Qf bv wv sv mv lw kw ow cw p) id many e))]] fun r H=>r= .ret (.tuple [])/\H=[C,[(2,.cells a),(14,.cells (Qx (Qf bv wv sv mv lw kw ow cw p) id many e))]]:=by
 refine Zu Tryz.func12 rfl ?_;have c1:(e !=0)=true:=by simpa using he
 simp only[Qx,Qf,Zo8,Zpu] at hW⊢;have pop:∀(X:AM.Frame),Yk 2 (.tuple []) [C,[(2,.cells a),(14,.cells _)],X]=_:=fun X=>Zf (G:=[X]) (v:= .tuple []) rfl hW;simp only[wX,↓Qc,simprocAttr,Tryz.ntmps12,c1];exact W.done (End.ret (v:= .tuple []) rfl ⟨rfl,pop _⟩)
theorem Qk8(C F2:AM.Frame)(a:List V)(bv wv sv mv lw kw ow cw:V)(p:Kx)(id many e:Int)(he:e≠0)(hW:WF [C,[(2,.cells a),(14,.cells (Qx (Qf bv wv sv mv lw kw ow cw p) id many e))],F2]):
 CW Tp Qg 12 [.ptr 1 14 0] [C,[(2,.cells a),(14,.cells (Qx (Qf bv wv sv mv lw kw ow cw p) id many e))],F2] fun r H=>r= .ret (.tuple [])/\H=[C,[(2,.cells a),(14,.cells (Qx (Qf bv wv sv mv lw kw ow cw p) id many e))],F2]:=by
 refine Zu Tryz.func12 rfl ?_;have c1:(e !=0)=true:=by simpa using he
 simp only[Qx,Qf,Zo8,Zpu] at hW⊢;have pop:∀(X:AM.Frame),Yk 3 (.tuple []) [C,[(2,.cells a),(14,.cells _)],F2,X]=_:=fun X=>Zf (G:=[X]) (v:= .tuple []) rfl hW;simp only[wX,↓Qc,simprocAttr,Tryz.ntmps12,c1];exact W.done (End.ret (v:= .tuple []) rfl ⟨rfl,pop _⟩)
theorem Qvw(C F2:AM.Frame)(a:List V)(bv wv sv mv lw kw ow cw:V)(p:Kx)(id many e:Int)(he:e=0)(hm:many=0)(hW:WF [C,[(2,.cells a),(14,.cells (Qx (Qf bv wv sv mv lw kw ow cw p) id many e))],F2]):
 CW Tp Qg 12 [.ptr 1 14 0] [C,[(2,.cells a),(14,.cells (Qx (Qf bv wv sv mv lw kw ow cw p) id many e))],F2] fun r H=>r= .ret (.tuple [])/\H=[C,[(2,.cells a),(14,.cells (Qx (Qf bv wv sv mv lw kw ow cw p) id many e))],F2]:=by
 refine Zu Tryz.func12 rfl ?_;subst he hm;have c1:((0:Int) !=0)=false:=rfl;simp only[Qx,Qf,Zo8,Zpu] at hW⊢;have pop:∀(X:AM.Frame),Yk 3 (.tuple []) [C,[(2,.cells a),(14,.cells _)],F2,X]=_:=fun X=>Zf (G:=[X]) (v:= .tuple []) rfl hW;simp only[wX,↓Qc,simprocAttr,Tryz.ntmps12,c1];exact W.done (End.ret (v:= .tuple []) rfl ⟨rfl,pop _⟩)
end Go.Proofs.YtjllfbejpjonnaaGreatDoor
namespace Go.Proofs.YtjllfbejpjonnaaGreatDoor
open Go.AM
attribute [local irreducible] U W
theorem Qgl{g:Get}{m:Nat}:∀{ls:List Qp} {ds:List (List UInt8)} {cs:List V},Qo cs ls ds->Q5 (frz g (m+1)) cs=some cs
 |[],[],cs,h=>by
  have:cs=[]:=h;subst this;rfl
 |[],_::_,_,h=>h.elim
 |_::_,[],_,h=>h.elim
 |c::ls,_::ds,_,⟨dv,d,e,h1,_,h⟩=>by
  subst e;simp only[Ql,Zo8,Zpu];exact Qa rfl (Qa rfl (Qa rfl (Qa rfl (Qa rfl (Qa rfl (Qa (Qw.frz h1 m) (Qa rfl (Qa rfl (Qa rfl (Qa rfl (Qa rfl (Qgl h))))))))))))
theorem Qjm{g:Get}{m:Nat}:∀{ls:List (List UInt8)} {cs:List V},Kw cs ls->Q5 (frz g (m+1)) cs=some cs
 |[],cs,h=>by
  have:cs=[]:=h;subst this;rfl
 |x::ls,_,⟨v,d,e,h1,h⟩=>by
  subst e;exact Qa (Qw.frz h1 m) (Qjm h)
theorem Qkf{g:Get}{m:Nat}:∀{ls:List Zy} {cs:List V},LinesC cs ls->Q5 (frz g (m+1)) cs=some cs
 |[],cs,h=>by
  have:cs=[]:=h;subst this;rfl
 |l::ls,_,⟨dv,d,e,h1,h⟩=>by
  subst e;simp only[J3,Zo8,Zpu];exact Qa rfl (Qa rfl (Qa rfl (Qa rfl (Qa rfl (Qa rfl (Qa rfl (Qa rfl (Qa rfl (Qa rfl (Qa rfl (Qa rfl (Qa (Qw.frz h1 m) (Qkf h)))))))))))))
theorem Bj.frz{fr d esz n m:Nat}{cs:List V}{w:V}{o:O}(h:Bj fr d esz n cs w o)(hl:cs.length=n*esz){g:Get}(hg:g fr d=some o)(hc:Q5 (frz g (m+1)) cs=some cs):∃w',AM.frz g (m+2) w=some w' /\Qw esz w' cs n:=by
 rcases h with⟨h0,hcs,rfl,_⟩|⟨cap,rfl,rfl⟩
 . subst hcs;exact⟨.nS,rfl,by rw[h0];exact Qw.nil⟩
 . · have e:(cs.drop 0).take (n*esz)=cs:=by rw[Zpe,Zpf (by omega)]
     have:=Qbt (g:=g) (f:=fr) (s:=d) (o:=0) (len:=n) (esz:=esz) (m:=m) (cap:=cap) (xs:=cs) hg (by omega) (by rw[e];exact hc);rw[e] at this;exact⟨_,this,hl,.inr ⟨_,rfl⟩⟩
theorem Qf9:∀{ls:List Zy} {cs:List V},LinesC cs ls->cs.length=ls.length*13
 |[],cs,h=>by
  have:cs=[]:=h;subst this;rfl
 |l::ls,_,⟨dv,d,e,_,h⟩=>by
  subst e;rw[Zom,Qf9 h];simp[J3];omega
theorem Qjw:∀{ls:List (List UInt8)} {cs:List V},Kw cs ls->cs.length=ls.length*1
 |[],cs,h=>by
  have:cs=[]:=h;subst this;rfl
 |x::ls,_,⟨v,d,e,_,h⟩=>by
  subst e;rw[Zp9,Qjw h];simp
end Go.Proofs.YtjllfbejpjonnaaGreatDoor
namespace Go.Proofs.YtjllfbejpjonnaaGreatDoor
open Go.AM
attribute [local irreducible] U W
structure SealJ(x:Kc)(id:Int)(cw:V)(i:Nat)(b w s:V)(ep ct e:Int)(oc:O)(cs:List V)(L' :List Qp):Prop where
 own:Bj 2 21 12 x.p.changes.length cs cw oc
 ch:Qo cs L' x.datas
 len:L'.length=x.p.changes.length
 st:∃bl wl sp,Xn b w s bl wl sp/\(e=0->bl=x.blocks/\Jn bl wl=true)
 ok:e=0->ep=x.p.epoch/\∃k:Nat,ct=x.p.count+k/\Qbf id (x.p.gen+1) x.p.epoch x.p.count x.p.changes i k L'
abbrev Ki(p:Kx)(ep ct:Int):Kx:={p with epoch:=ep,count:=ct}
abbrev HJ(C:AM.Frame)(a:List V)(jc pc z c75:List V)(ol oc ok oo:O):AM.Heap:=[C,[(2,.cells a),(14,.cells jc)],twF pc z c75 ol oc ok oo]
theorem Qbx{q:Nat->Nat->Bool}{xs:List V}:(O.cells xs).refs q=Qi q xs:=rfl
theorem Bj.orefs{fr d esz n:Nat}{cs:List V}{w:V}{o:O}(h:Bj fr d esz n cs w o){q:Nat->Nat->Bool}(hc:Qi q cs=false):o.refs q=false:=by
 rcases h with⟨_,_,_,rfl⟩|⟨cap,_,rfl⟩
 . rfl
 . exact hc
section
variable {bv wv sv mv lw kw ow cw : V} {x : Kc}
theorem Qs6{C:AM.Frame}(hC:Zg (fun f _=>Nat.ble 1 f) C=true){a:List V}(ha:Qi (fun f _=>Nat.ble 3 f) a=false){ol oc oc0 ok oo:O}{pc z c75:List V}{cs:List V}{L' :List Qp}{b w s:V}{bl wl sp}
 (hf:FrC pc z c75)(q4:Xg mv x.p.own)(q5:Qh8 2 x lw kw ow cw ol oc0 ok oo)(hS:Xn b w s bl wl sp)(ho:Bj 2 21 12 x.p.changes.length cs cw oc)(hc:Qo cs L' x.datas)(ep ct id many e:Int):
 Q2 (fun f _=>Nat.ble 3 f) (HJ C a (Qx (Qf b w s mv lw kw ow cw (Ki x.p ep ct)) id many e) pc z c75 ol oc ok oo)=true:=by
 obtain⟨c1,a1,b1⟩:=q5.lines;obtain⟨c2,a2,b2⟩:=q5.changes;obtain⟨c3,a3,b3⟩:=q5.keys;obtain⟨c4,a4,b4⟩:=q5.loaded;obtain⟨_,_,h1⟩:=hS.blocks;obtain⟨_,_,h2⟩:=hS.waits;have n1:=fun q=>Qw.noRefs h1 q;have n2:=fun q=>Qw.noRefs h2 q;have n3:=fun q=>Qw.noRefs hS.space q;have n4:=fun q=>Qw.noRefs q4 q;have m1:=Bj.refs a1 (q:=fun f _=>Nat.ble 3 f) rfl;have m2:=Bj.refs a2 (q:=fun f _=>Nat.ble 3 f) rfl;have m3:=Bj.refs a3 (q:=fun f _=>Nat.ble 3 f) rfl;have m4:=Bj.refs a4 (q:=fun f _=>Nat.ble 3 f) rfl;have o1:=Bj.orefs a1 (q:=fun f _=>Nat.ble 3 f) b1.refs;have o2:=Bj.orefs ho (q:=fun f _=>Nat.ble 3 f) hc.refs;have o3:=Bj.orefs a3 (q:=fun f _=>Nat.ble 3 f) b3.refs;have o4:=Bj.orefs a4 (q:=fun f _=>Nat.ble 3 f) b4.refs;have hC3:Zg (fun f _=>Nat.ble 3 f) C=true:=Qb7 (Qa0 (by omega)) C hC;simp only[HJ,twF,Q2,Zg,hC3,Qbx,ha,hf.a,hf.b,hf.c,o1,o2,o3,o4,Qx,Qf,Zo8,Zpu,Qi,V.refs,n1,n2,n3,n4,m1,m2,m3,m4,Zqs,Zp7,Zqc]
 try rfl
def RSeal2(C:AM.Frame)(a:List V)(mv lw kw ow cw:V)(x:Kc)(id many:Int)(pc z c75:List V)(ol ok oo:O)(r:Rt)(H' :Heap):Prop:=
 r= .ret (.tuple [])/\∃e b w s ep ct oc cs L',H' =HJ C a (Qx (Qf b w s mv lw kw ow cw (Ki x.p ep ct)) id many e) pc z c75 ol oc ok oo/\SealJ x id cw x.p.changes.length b w s ep ct e oc cs L'
set_option maxHeartbeats 8000000 in
theorem Zdf(C:AM.Frame)(hC:Zg (fun f _=>Nat.ble 1 f) C=true)(f:x.Fits)(hok:Qaz x=true){id many:Int}{ol oc ok oo:O}{pc z c75:List V}(ho:Q3f x id many 0 bv wv sv mv lw kw ow cw ol oc ok oo pc z c75)
 (a:List V)(ha:Qi (fun f _=>Nat.ble 3 f) a=false):
 CW Tp Qg 11 [.ptr 1 14 0] (HJ C a (Qx (Qf bv wv sv mv lw kw ow cw x.p) id many 0) pc z c75 ol oc ok oo) (RSeal2 C a mv lw kw ow cw x id many pc z c75 ol ok oo):=by
 refine Zu Tryz.func11 rfl ?_;have good:=Qh3 hok;have pch:=Bv hok;have gmax:=Qx9 hok;obtain⟨dok,tok,ep1,ep2,ct2⟩:=Qer good.store;have spl:=Qe0 tok;have S0:Xn bv wv sv x.blocks x.waits x.space:=⟨ho.blocks,ho.waits,ho.space,f.blocks,f.waits,f.wat⟩;obtain⟨cs0,hoc0,hcd0⟩:=ho.twin.changes;obtain⟨lcs,hol,hlc⟩:=ho.twin.lines;obtain⟨kcs,hok2,hkc⟩:=ho.twin.loaded;have hlines:=(ho.ok rfl).1;have l16:=good.lines;obtain⟨s1,s2,s3,s4,s5,s6,s7,s8,t1,t2,t3,t4,t5,t6,t7,t8⟩:=Qeo ho.blocks ho.waits ho.space ho.own ho.twin;obtain⟨lcap,rfl,rfl⟩:∃cap,lw= .mS 2 18 0 x.p.lines.length cap 13/\ol= .cells lcs:=by
  obtain⟨i,hi,_⟩:=hlines;rcases hol with⟨n0,_⟩|h
  . omega
  . exact h
 obtain⟨ocap,rfl,rfl⟩:∃cap,ow= .mS 2 68 0 8 cap 1/\oo= .cells kcs:=by
  rcases hok2 with⟨n0,_⟩|⟨cap,h1,h2⟩
  . have:=good.loaded;omega
  . rw[good.loaded] at h1;exact⟨cap,h1,h2⟩
 have cl0:=Qs6 hC ha ho.fr ho.own ho.twin S0 hoc0 hcd0 x.p.epoch x.p.count id many 0;have e0:Ki x.p x.p.epoch x.p.count=x.p:=rfl;rw[e0] at cl0;have hl1:∀d,∃i,∃h:i<x.p.lines.length,callOp Qg (Qn Tp Qg) 11 3 d 20 [.agg (Qf bv wv sv mv (.mS 2 18 0 x.p.lines.length lcap 13) kw (.mS 2 68 0 8 ocap 1) cw x.p),.int .i64 id] (HJ C a (Qx (Qf bv wv sv mv (.mS 2 18 0 x.p.lines.length lcap 13) kw (.mS 2 68 0 8 ocap 1) cw x.p) id many 0) pc z c75 (.cells lcs) oc ok (.cells kcs)++[[(1,.cells [.ptr 1 14 0])]])=
  some (.ret (.ptr 2 18 (i*13)),HJ C a (Qx (Qf bv wv sv mv (.mS 2 18 0 x.p.lines.length lcap 13) kw (.mS 2 68 0 8 ocap 1) cw x.p) id many 0) pc z c75 (.cells lcs) oc ok (.cells kcs)++[[(1,.cells [.ptr 1 14 0])]]):=by
  intro d;obtain⟨r,H',e1,rfl,i,hi,_,rfl⟩:=Q2e (p:=x.p) (cs:=lcs) (cap:=lcap) (C:=C) (F1:=[(2,.cells a),(14,.cells (Qx (Qf bv wv sv mv (.mS 2 18 0 x.p.lines.length lcap 13) kw (.mS 2 68 0 8 ocap 1) cw x.p) id many 0))]) (F2:=twF pc z c75 (.cells lcs) oc ok (.cells kcs)) (F3:=[(1,.cells [.ptr 1 14 0])])
   ⟨s1,s2,s3,s4,s6,s7,s8⟩ hlc (Qf9 hlc) (by omega) id hlines rfl (Qdo (by
     have:=Zs (fun f _=>Nat.ble 3 f) (HJ C a (Qx (Qf bv wv sv mv (.mS 2 18 0 x.p.lines.length lcap 13) kw (.mS 2 68 0 8 ocap 1) cw x.p) id many 0) pc z c75 (.cells lcs) oc ok (.cells kcs)) [[(1,.cells [.ptr 1 14 0])]];rw[cl0] at this
     exact this) (by simp)) (fun g hg=>hol.frz (m:=10) (Qf9 hlc) hg (Qkf hlc))
  exact⟨i,hi,Qy3 rfl rfl rfl e1⟩
 obtain⟨i0,hi0,hl0⟩:=hl1 (some 24);obtain⟨_,_,_,g6⟩:=hlc.cells hi0;have hk:=good.line _ (Zp8 hi0);obtain⟨kv,hk1,hk2⟩:=hkc.at_ (i:=(x.p.lines[i0].key).toNat) (by rw[good.loaded];omega);have kat:=Qir (P:=Tp) (u:=22) (e:=26) Zu1 Qau (f:=2) (s:=68) (o:=0) (len:=8) (cap:=ocap) (k:= .i64) (i:=x.p.lines[i0].key) hk.2.1 hk.2.2;have ksc:=Q4 hk2;generalize hK:x.p.loaded[(x.p.lines[i0].key).toNat]'(by rw[good.loaded];omega)=K at hk2;have klen:=hk2.len Zu0;have cl4:Q2 (fun f _=>Nat.ble 3 f) (HJ C a (Qx (Qf bv wv sv mv (.mS 2 18 0 x.p.lines.length lcap 13) kw (.mS 2 68 0 8 ocap 1) cw x.p) id many 0) pc z c75 (.cells lcs) oc ok (.cells kcs)++[[(1,.cells [.ptr 1 14 0])]])=true:=by rw[Zs,cl0];rfl
 have hcont:∀d,callOp Qg (Qn Tp Qg) 11 3 d 23 [cw,.func (.func 22) [] [.ptr 3 1 0]] (HJ C a (Qx (Qf bv wv sv mv (.mS 2 18 0 x.p.lines.length lcap 13) kw (.mS 2 68 0 8 ocap 1) cw x.p) id many 0) pc z c75 (.cells lcs) oc ok (.cells kcs)++[[(1,.cells [.ptr 1 14 0])]])=
  some (.ret (.bool (x.p.changes.any (Xw id))),HJ C a (Qx (Qf bv wv sv mv (.mS 2 18 0 x.p.lines.length lcap 13) kw (.mS 2 68 0 8 ocap 1) cw x.p) id many 0) pc z c75 (.cells lcs) oc ok (.cells kcs)++[[(1,.cells [.ptr 1 14 0])]]):=by
  intro d;have w4:=Qdo cl4 (by simp);have w5:=Qdo (H:=(HJ C a (Qx (Qf bv wv sv mv (.mS 2 18 0 x.p.lines.length lcap 13) kw (.mS 2 68 0 8 ocap 1) cw x.p) id many 0) pc z c75 (.cells lcs) oc ok (.cells kcs)++[[(1,.cells [.ptr 1 14 0])]])++[[]]) (by rw[Zs,cl4];rfl) (by simp);have w6:=Qdo (H:=(HJ C a (Qx (Qf bv wv sv mv (.mS 2 18 0 x.p.lines.length lcap 13) kw (.mS 2 68 0 8 ocap 1) cw x.p) id many 0) pc z c75 (.cells lcs) oc ok (.cells kcs)++[[(1,.cells [.ptr 1 14 0])]])++[[],[]]) (by rw[Zs,cl4];rfl) (by simp);rcases hoc0 with⟨n0,hcs,rfl,rfl⟩|⟨ccap,rfl,rfl⟩
  . have e1:x.p.changes.any (Xw id)=false:=by rw[Zoz n0];rfl
    rw[e1];obtain⟨r,H',e2,rfl,rfl⟩:=Q03 _ _ _ _ _ rfl w4 w5;exact Za rfl rfl rfl e2
  . obtain⟨r,H',e2,rfl,rfl⟩:=Q4j C a pc z c75 (.cells lcs) ok (.cells kcs) bv wv sv mv _ kw _ _ x.p id many 0 x.p.changes x.datas cs0 ccap hcd0 (by omega) w4 w5 w6;exact Za rfl rfl rfl e2
 simp only[HJ,twF,Qx,Qf,Zo8,Zpu] at hl0 hcont⊢;have c0:((0:Int) !=0)=false:=rfl;simp only[wX,↓Qc,simprocAttr,Tryz.ntmps11,c0,s1,s2,s3,s4,s5,s6,s7,s8,t1,t2,t3,t4,t5,t6,t7,t8,hl0,g6,kat,hk1];refine W.opsT (by kernel_rfl) ?_;have lch:=hoc0.len (P:=Tp) Zu2;cases c1:((K.length:Int)==0)
 case' true=>cases c2:x.p.changes.any (Xw id)
 case' true.true=>rw[c2] at hcont;simp only[wX,↓Qc,simprocAttr,c0,s1,s2,s3,s4,s5,s6,s7,s8,t1,t2,t3,t4,t5,t6,t7,t8,klen,c1,hcont];refine W.done (End.ret (v:= .tuple []) rfl ⟨rfl,200,bv,wv,sv,x.p.epoch,x.p.count,oc,cs0,x.p.changes,?_,⟨hoc0,hcd0,rfl,⟨_,_,_,S0,fun h=>absurd h (by decide)⟩,fun h=>absurd h (by decide)⟩⟩);exact Zf (H:=HJ C a (Qx (Qf bv wv sv mv (.mS 2 18 0 x.p.lines.length lcap 13) kw (.mS 2 68 0 8 ocap 1) cw x.p) id many 200) pc z c75 (.cells lcs) oc ok (.cells kcs)) (G:=[[(1,.cells [.ptr 1 14 0])]]) (v:= .tuple []) rfl (Qdo (Qs6 hC ha ho.fr ho.own ho.twin S0 hoc0 hcd0 x.p.epoch x.p.count id many 200) (by simp))
 case' true.false=>rw[c2] at hcont;simp only[wX,↓Qc,simprocAttr,c0,s1,s2,s3,s4,s5,s6,s7,s8,t1,t2,t3,t4,t5,t6,t7,t8,klen,c1,hcont,lch]
 case' false=>simp only[wX,↓Qc,simprocAttr,c0,s1,s2,s3,s4,s5,s6,s7,s8,t1,t2,t3,t4,t5,t6,t7,t8,klen,c1,lch]
 all_goals
  refine W.ul ?_;refine W.loop (fun(i:Nat) t H=>∃b w s ep ct e o cs L',SealJ x id cw i b w s ep ct e o cs L' /\Jg [1,2,3,51,52] t 0=Ql8 (.ptr 3 1 0) kv (.func (.func 22) [] [.ptr 3 1 0]) (.int .i64 x.p.changes.length) (.int .i64 i)/\i<=x.p.changes.length/\
   H=HJ C a (Qx (Qf b w s mv (.mS 2 18 0 x.p.lines.length lcap 13) kw (.mS 2 68 0 8 ocap 1) cw (Ki x.p ep ct)) id many e) pc z c75 (.cells lcs) o ok (.cells kcs)++[[(1,.cells [.ptr 1 14 0])]]) (fun i=>x.p.changes.length-i) ?_ 0
   ⟨bv,wv,sv,x.p.epoch,x.p.count,0,oc,cs0,x.p.changes,⟨hoc0,hcd0,rfl,⟨_,_,_,S0,fun _=>⟨rfl,dok⟩⟩,fun _=>⟨rfl,0,by simp,Qbf.zero _⟩⟩,rfl,Zq1 _,rfl⟩
  rintro i t H ⟨b,w,s,ep,ct,e,o,cs,L',hJ,ht,hi,rfl⟩;refine⟨_,_,Zx (kt:=[1,2,3,51,52]) rfl rfl,?_⟩;rw[ht];obtain⟨bl,wl,sp,S1,hS1⟩:=hJ.st;obtain⟨_,_,u1⟩:=(show _ from S1.blocks);obtain⟨_,_,u2⟩:=(show _ from S1.waits);have r1:=Q4 u1;have r2:=Q4 u2;have r3:=Q4 S1.space;have cl:=Qs6 hC ha ho.fr ho.own ho.twin S1 hJ.own hJ.ch ep ct id many e;have cl5:Q2 (fun f _=>Nat.ble 3 f) (HJ C a (Qx (Qf b w s mv (.mS 2 18 0 x.p.lines.length lcap 13) kw (.mS 2 68 0 8 ocap 1) cw (Ki x.p ep ct)) id many e) pc z c75 (.cells lcs) o ok (.cells kcs)++[[(1,.cells [.ptr 1 14 0])]])=true:=by rw[Zs,cl];rfl
  have key:i<x.p.changes.length\/¬i<x.p.changes.length:=Classical.em _;rcases key with h0|h0
  . obtain⟨ccap,rfl,rfl⟩:∃cap,cw= .mS 2 21 0 x.p.changes.length cap 12/\o= .cells cs:=by
     rcases hJ.own with⟨n0,_⟩|h
     . omega
     . exact h
    have hlen:=hJ.len;have hiL:i<L'.length:=by omega
    have c3:decide ((i:Int)<x.p.changes.length)=true:=Zrh (by omega);have wi:(IntKind.i64).wrap ((i:Int)+1)=((i+1:Nat):Int):=by rw[wrap_i64]<;>omega
    have at1:=Qir (P:=Tp) (u:=34) (e:=43) Zu2 Qdq (f:=2) (s:=21) (o:=0) (len:=x.p.changes.length) (cap:=ccap) (k:= .i64) (i:=(i:Int)) (by omega) (by omega);have st:(0+(i:Int).toNat*12)=i*12:=by omega
    rw[st] at at1;obtain⟨dv,q0,hi2,q1,q2⟩:=hJ.ch.at2 hiL;have hcl:=Qbg hJ.ch;have rdc:Q3 Tp 43 cs (i*12)=some (.agg (Ql L'[i] dv)):=by rw[Quz,if_pos (by omega),q0]
    have g1:cs[i*12+6]?=some dv:=by have:=congrArg (fun l=>l[6]?) q0;simp only[Zoe,Zpy,Ql] at this;simpa using this
    have sd:=Q4 q1;have cd:=Q7 q1;cases c4:(e==0)
    case false=>
     have ne:¬e=0:=by simpa using c4
     simp only[HJ,twF,Qx,Qf,Ki,Ql8,Zo8,Zpu];simp only[wX,↓Qc,simprocAttr,r1,r2,r3,s4,s6,c3,wi,at1,rdc,g1,sd,cd,c4];exact W.done ⟨i+1,⟨b,w,s,ep,ct,e,_,cs,L',⟨.inr ⟨_,rfl,rfl⟩,hJ.ch,hJ.len,hJ.st,fun h=>absurd h ne⟩,rfl,by omega,rfl⟩,by omega⟩
    case true=>
     have e0:e=0:=by simpa using c4
     subst e0;obtain⟨rfl,dok1⟩:=hS1 rfl;obtain⟨rfl,k,rfl,hSS⟩:=hJ.ok rfl;obtain⟨_,hiL',hat⟩:=hSS.at_ h0;have w5:=Qdo cl5 (by simp);have hw:∀d,callOp Qg (Qn Tp Qg) 11 3 d 22 [.agg (Ql L'[i] dv),.ptr 3 1 0] (HJ C a (Qx (Qf b w s mv (.mS 2 18 0 x.p.lines.length lcap 13) kw (.mS 2 68 0 8 ocap 1) (.mS 2 21 0 x.p.changes.length ccap 12) (Ki x.p x.p.epoch (x.p.count+k))) id many 0) pc z c75 (.cells lcs) (.cells cs) ok (.cells kcs)++[[(1,.cells [.ptr 1 14 0])]])=
      some (.ret (.bool (Xw id L'[i])),HJ C a (Qx (Qf b w s mv (.mS 2 18 0 x.p.lines.length lcap 13) kw (.mS 2 68 0 8 ocap 1) (.mS 2 21 0 x.p.changes.length ccap 12) (Ki x.p x.p.epoch (x.p.count+k))) id many 0) pc z c75 (.cells lcs) (.cells cs) ok (.cells kcs)++[[(1,.cells [.ptr 1 14 0])]]):=fun d=>by
      obtain⟨r,H',e1,rfl,rfl⟩:=Q70 C (twF pc z c75 (.cells lcs) (.cells cs) ok (.cells kcs)) a b w s mv _ kw _ _ (Ki x.p x.p.epoch (x.p.count+k)) id many 0 L'[i] dv _ q1 q2 w5;exact Za rfl rfl rfl e1
     cases c5:Xw id L'[i]
     case false=>rw[c5] at hw;simp only[HJ,twF,Qx,Qf,Ki,Ql8,Zo8,Zpu] at hw⊢;simp only[wX,↓Qc,simprocAttr,r1,r2,r3,s4,s6,c3,wi,at1,rdc,g1,sd,cd,c4,hw];exact W.done ⟨i+1,⟨b,w,s,_,_,0,_,cs,L',⟨.inr ⟨_,rfl,rfl⟩,hJ.ch,hJ.len,hJ.st,fun _=>⟨rfl,k,rfl,hSS.same h0⟩⟩,rfl,by omega,rfl⟩,by omega⟩
     case true=>
      rw[c5] at hw;have gw:(IntKind.u32).wrap (x.p.gen+1)=x.p.gen+1:=by have:=f.nums.2;simp only[IntKind.wrap,IntKind.bits,IntKind.signed,Zqy,Zn5,if_false];omega
      have h00:=f.nums.1;obtain⟨m,hm0,hm⟩:=(Q46 S1 x.p.epoch (x.p.count+k) (x.p.gen+1) (by omega) hk2 q1).op (by rfl) (Qa (Qbl S1 _ _ _) (Qa rfl (Qa (hk2.frz _) (Qa (q1.frz _) rfl))));have hm1:∀s H,_:=fun s H=>hm 11 3 s H rfl;have le1:i*12+7+5<=cs.length:=by omega
      rcases hm0 with⟨er,rfl,her⟩|⟨b2,w2,s2',p,tt,ss,d,rfl,k1,k2,k3,k4,k5,k6,k7,k8⟩
      . simp only[HJ,twF,Qx,Qf,Ki,Ql8,Zo8,Zpu] at hw hm1⊢;simp only[wX,↓Qc,simprocAttr,r1,r2,r3,s4,s6,c3,wi,at1,rdc,g1,sd,cd,c4,hw,gw,hm1,le1];refine W.opsT (by kernel_rfl) ?_;simp only[wX,↓Qc,simprocAttr,r1,r2,r3,s4,s6,c3,wi,at1,rdc,g1,sd,cd,c4,hw,gw,hm1,le1];have hset:=hJ.ch.setLaid (q:=Bf) hiL;refine W.done ⟨i+1,⟨.nS,.nS,.nS,0,0,er,_,_,_,⟨.inr ⟨_,rfl,rfl⟩,hset,by rw[Zql];exact hJ.len,⟨[],[],[],⟨⟨[],rfl,Qw.nil⟩,⟨[],rfl,Qw.nil⟩,Qe.nil,by simp,by simp,fun w h=>by cases h⟩,fun h=>absurd h her⟩,fun h=>absurd h her⟩,rfl,by omega,rfl⟩,by omega⟩
      . simp only[HJ,twF,Qx,Qf,Ki,Ql8,Zo8,Zpu] at hw hm1⊢;obtain⟨_,_,v1⟩:=(show _ from k1);obtain⟨_,_,v2⟩:=(show _ from k2);have y1:=Q4 v1;have y2:=Q4 v2;have y3:=Q4 k3;simp only[wX,↓Qc,simprocAttr,r1,r2,r3,s4,s6,c3,wi,at1,rdc,g1,sd,cd,c4,hw,gw,hm1,le1,y1,y2,y3];refine W.opsT (by kernel_rfl) ?_;simp only[wX,↓Qc,simprocAttr,r1,r2,r3,s4,s6,c3,wi,at1,rdc,g1,sd,cd,c4,hw,gw,hm1,le1,y1,y2,y3];have hset:=hJ.ch.setLaid (q:=⟨p,x.p.gen+1,x.p.epoch*65536+(x.p.count+k+1),tt,ss⟩) hiL;have hp:=Qwk sp 0 p k6;have hsl:=Qe0 k5;have hwl:(wl++[((p:Int),d)]).length<=4096:=by
         have:=k4;simp only[Jn,Zok,decide_eq_true_eq] at this;omega
        have S2:Xn b2 w2 s2' x.blocks (wl++[((p:Int),d)]) (sp.set p 1):=⟨k1,k2,k3,S1.b1,Zn7 hwl (by decide),fun y hy=>by
         rcases Zog.1 hy with hy|hy
         . exact S1.w0 y hy
         . rw[Zoh.1 hy];exact⟨by simp only;omega,by simp only;omega⟩⟩
        simp only[Xw,Zok,beq_iff_eq,decide_eq_true_eq] at c5;have hone:=hSS.one h0 (by rw[<-hat];exact c5.2.2) (by rw[<-hat];exact c5.1) k8 p tt ss;rw[<-hat] at hone;have ec:x.p.count+(k:Int)+1=x.p.count+((k+1:Nat):Int):=by omega
        refine W.done ⟨i+1,⟨b2,w2,s2',_,_,0,_,_,_,⟨.inr ⟨_,rfl,rfl⟩,hset,by rw[Zql];exact hJ.len,⟨_,_,_,S2,fun _=>⟨rfl,k4⟩⟩,fun _=>⟨rfl,k+1,ec,hone⟩⟩,rfl,by omega,rfl⟩,by omega⟩
  . have c3:decide ((i:Int)<x.p.changes.length)=false:=Zri (by omega);have hin:i=x.p.changes.length:=by omega
    have pop:=Zf (H:=HJ C a (Qx (Qf b w s mv (.mS 2 18 0 x.p.lines.length lcap 13) kw (.mS 2 68 0 8 ocap 1) cw (Ki x.p ep ct)) id many e) pc z c75 (.cells lcs) o ok (.cells kcs)) (G:=[[(1,.cells [.ptr 1 14 0])]]) (v:= .tuple []) rfl (Qdo cl (by simp));simp only[HJ,twF,Qx,Qf,Ki,Ql8,Zo8,Zpu] at pop⊢;simp only[wA,↓Qc,simprocAttr,c3];refine W.done ?_;simp only[wA,↓Qc,simprocAttr];exact W.done (End.normal (v:= .tuple []) rfl ⟨rfl,e,b,w,s,ep,ct,o,cs,L',pop,by rw[<-hin];exact hJ⟩)
end
end Go.Proofs.YtjllfbejpjonnaaGreatDoor
namespace Go.Proofs.YtjllfbejpjonnaaGreatDoor
open Go.AM
attribute [local irreducible] U W
def Qdg(id:Int)(c:Qp):Bool:=c.set !=id
theorem Q51(C F2 F4 F5:AM.Frame)(a:List V)(bv wv sv mv lw kw ow cw:V)(p:Kx)(id many e:Int)(c:Qp)(dv:V)(d:List UInt8)(hd:Qe dv d)
 (hW:WF [C,[(2,.cells a),(14,.cells (Qx (Qf bv wv sv mv lw kw ow cw p) id many e))],F2,[(1,.cells [.ptr 1 14 0])],F4,F5]):
 CW Tp Qg 27 [.agg (Ql c dv),.ptr 3 1 0] [C,[(2,.cells a),(14,.cells (Qx (Qf bv wv sv mv lw kw ow cw p) id many e))],F2,[(1,.cells [.ptr 1 14 0])],F4,F5] fun r H' =>r= .ret (.bool (Qdg id c))/\H' =[C,[(2,.cells a),(14,.cells (Qx (Qf bv wv sv mv lw kw ow cw p) id many e))],F2,[(1,.cells [.ptr 1 14 0])],F4,F5]:=by
 refine Zu Tryz.func27 rfl ?_;have s1:=Q4 hd;have s2:=Q7 hd;obtain⟨cset,cobj,cindex,ckind,clinks,csize,cn,⟨pa,pb,pi,pt,ps⟩⟩:=c;simp only[Ql,Qx,Qf,Zo8,Zpu];simp only[Qx,Qf,Zo8,Zpu] at hW;have pop:∀(b:Bool) (X:AM.Frame),Yk 6 (.bool b) [C,[(2,.cells a),(14,.cells _)],F2,[(1,.cells [.ptr 1 14 0])],F4,F5,X]=_:=fun b X=>Zf (G:=[X]) (v:= .bool b) rfl hW;simp only[wX,↓Qc,simprocAttr,Tryz.ntmps27,s1,s2];refine W.opsT (by kernel_rfl) ?_;simp only[wX,↓Qc,simprocAttr,s1,s2];exact W.done (End.ret (v:= .bool (cset !=id)) rfl ⟨rfl,pop _ _⟩)
theorem Q6c(C F2 F4 F5:AM.Frame)(a:List V)(bv wv sv mv lw kw ow cw:V)(p:Kx)(id many e:Int)(c:Qp)(dv:V)(d:List UInt8)(hd:Qe dv d)
 (hW:WF [C,[(2,.cells a),(14,.cells (Qx (Qf bv wv sv mv lw kw ow cw p) id many e))],F2,[(1,.cells [.ptr 1 14 0])],F4,F5,[]]):
 CW Tp Qg 27 [.agg (Ql c dv),.ptr 3 1 0] [C,[(2,.cells a),(14,.cells (Qx (Qf bv wv sv mv lw kw ow cw p) id many e))],F2,[(1,.cells [.ptr 1 14 0])],F4,F5,[]] fun r H' =>r= .ret (.bool (Qdg id c))/\H' =[C,[(2,.cells a),(14,.cells (Qx (Qf bv wv sv mv lw kw ow cw p) id many e))],F2,[(1,.cells [.ptr 1 14 0])],F4,F5,[]]:=by
 refine Zu Tryz.func27 rfl ?_;have s1:=Q4 hd;have s2:=Q7 hd;obtain⟨cset,cobj,cindex,ckind,clinks,csize,cn,⟨pa,pb,pi,pt,ps⟩⟩:=c;simp only[Ql,Qx,Qf,Zo8,Zpu];simp only[Qx,Qf,Zo8,Zpu] at hW;have pop:∀(b:Bool) (X:AM.Frame),Yk 7 (.bool b) [C,[(2,.cells a),(14,.cells _)],F2,[(1,.cells [.ptr 1 14 0])],F4,F5,[],X]=_:=fun b X=>Zf (G:=[X]) (v:= .bool b) rfl hW;simp only[wX,↓Qc,simprocAttr,Tryz.ntmps27,s1,s2];refine W.opsT (by kernel_rfl) ?_;simp only[wX,↓Qc,simprocAttr,s1,s2];exact W.done (End.ret (v:= .bool (cset !=id)) rfl ⟨rfl,pop _ _⟩)
abbrev clF(cs:List V):AM.Frame:=[(5,.cells []),(7,.cells cs)]
theorem Q0w(C F2:AM.Frame)(a:List V)(bv wv sv mv lw kw ow cw:V)(p:Kx)(id many e:Int)(l:List Qp)(ds:List (List UInt8))(cs:List V)(hc:Qo cs l ds)(hl:l.length<=65536)
 (hW6:WF [C,[(2,.cells a),(14,.cells (Qx (Qf bv wv sv mv lw kw ow cw p) id many e))],F2,[(1,.cells [.ptr 1 14 0])],clF cs,[]])
 (hW:WF [C,[(2,.cells a),(14,.cells (Qx (Qf bv wv sv mv lw kw ow cw p) id many e))],F2,[(1,.cells [.ptr 1 14 0])],clF cs,[],[]]):
 CW Tp Qg 62 [.mS 4 7 0 l.length none 12,.func (.func 27) [] [.ptr 3 1 0]] [C,[(2,.cells a),(14,.cells (Qx (Qf bv wv sv mv lw kw ow cw p) id many e))],F2,[(1,.cells [.ptr 1 14 0])],clF cs,[]] fun r H=>r= .ret (.int .i64 (Q8 (Qdg id) 0 l))/\H=[C,[(2,.cells a),(14,.cells (Qx (Qf bv wv sv mv lw kw ow cw p) id many e))],F2,[(1,.cells [.ptr 1 14 0])],clF cs,[]]:=by
 refine Zu Tryz.func62 rfl ?_;have len:∀g,Ku Tp g 34 (.mS 4 7 0 l.length none 12)=some (.int .i64 l.length):=Qk5 Zu2;have hcl:=Qbg hc;have hcall:∀i,(h:i<l.length)->∀dv,Qe dv (ds.getD i [])->∀d,callOp Qg (Qn Tp Qg) 62 6 d 27 [.agg (Ql l[i] dv),.ptr 3 1 0] [C,[(2,.cells a),(14,.cells (Qx (Qf bv wv sv mv lw kw ow cw p) id many e))],F2,[(1,.cells [.ptr 1 14 0])],clF cs,[],[]]=some (.ret (.bool (Qdg id l[i])),[C,[(2,.cells a),(14,.cells (Qx (Qf bv wv sv mv lw kw ow cw p) id many e))],F2,[(1,.cells [.ptr 1 14 0])],clF cs,[],[]]):=fun i h dv h1 d=>by obtain⟨r,H',e1,rfl,rfl⟩:=Q6c C F2 (clF cs) [] a bv wv sv mv lw kw ow cw p id many e l[i] dv _ h1 hW;exact Za rfl rfl rfl e1
 generalize hj:Qx (Qf bv wv sv mv lw kw ow cw p) id many e=jc at*;have pop:∀x:Int,Yk 6 (.int .i64 x) [C,[(2,.cells a),(14,.cells jc)],F2,[(1,.cells [.ptr 1 14 0])],clF cs,[],[]]=[C,[(2,.cells a),(14,.cells jc)],F2,[(1,.cells [.ptr 1 14 0])],clF cs,[]]:=fun x=>Zf (H:=[C,[(2,.cells a),(14,.cells jc)],F2,[(1,.cells [.ptr 1 14 0])],clF cs,[]]) (G:=[[]]) (v:= .int .i64 x) rfl hW6;simp only[wX,↓Qc,simprocAttr,Tryz.ntmps62,len];refine W.ul ?_;refine W.loopS (kt:=[0,1,7,8]) rfl (fun i:Nat=>Ql4 (.mS 4 7 0 l.length none 12) (.func (.func 27) [] [.ptr 3 1 0]) (.int .i64 l.length) (.int .i64 i)) (fun _=>[C,[(2,.cells a),(14,.cells jc)],F2,[(1,.cells [.ptr 1 14 0])],clF cs,[],[]]) (fun i=>i<=l.length/\Q8 (Qdg id) i (l.drop i)=Q8 (Qdg id) 0 l) (fun i=>l.length-i) ?_ 0 ⟨by omega,rfl⟩ rfl rfl;rintro i ⟨hi,hR⟩;simp only[Ql4];by_cases h:i<l.length
 . have c1:decide ((i:Int)<l.length)=true:=Zrh (by omega);have at1:=Qir (P:=Tp) Zu2 Qdq (f:=4) (s:=7) (o:=0) (len:=l.length) (cap:=none) (k:= .i64) (i:=(i:Int)) (by omega) (by omega);have st:(0+(i:Int).toNat*12)=i*12:=by omega
   rw[st] at at1;obtain⟨dv,q0,h2,q1,q2⟩:=hc.at2 h;have rdc:Q3 Tp 43 cs (i*12)=some (.agg (Ql l[i] dv)):=by rw[Quz,if_pos (by omega),q0]
   have w1:(IntKind.i64).wrap ((i:Int)+1)=((i+1:Nat):Int):=by rw[wrap_i64]<;>omega
   have eg:ds.getD i []=ds[i]:=by rw[Zq7,Zn1 h2];rfl
   have hcall1:=hcall i h dv (by rw[eg];exact q1);have hS:Q8 (Qdg id) i (l.drop i)=if Qdg id l[i] then(i:Int) else Q8 (Qdg id) (i+1) (l.drop (i+1)):=by rw[Zqt h];rfl
   rw[hR] at hS;have sdv:=Q4 q1;simp only[wX,↓Qc,simprocAttr,c1,at1,rdc,hcall1,sdv];refine W.ite ?_ ?_<;>intro h2<;>simp only[wA,↓Qc,simprocAttr,ta,wH,w1]
   . refine W.done ?_;simp only[wA,↓Qc,simprocAttr];refine W.done (End.ret (v:= .int .i64 (Q8 (Qdg id) 0 l)) ?_ ⟨rfl,pop _⟩);rw[hS,h2];rfl
   . refine W.done ⟨i+1,rfl,rfl,⟨by omega,?_⟩,by omega⟩;rw[hS,h2];rfl
 . have c1:decide ((i:Int)<l.length)=false:=Zri (by omega);simp only[wA,↓Qc,simprocAttr,c1];refine W.done ?_;simp only[wA,↓Qc,simprocAttr];refine W.done (End.ret (v:= .int .i64 (Q8 (Qdg id) 0 l)) ?_ ⟨rfl,pop _⟩);rw[<-hR,Zqe (by omega)];rfl
end Go.Proofs.YtjllfbejpjonnaaGreatDoor
namespace Go.Proofs.YtjllfbejpjonnaaGreatDoor
open Go.AM
attribute [local irreducible] U W
theorem Q4p{P:Program}{t e:TypeId}(hu:P.underlying t=some (.slice e)){x y:Operand}{f s o n k:Nat}{c:Option Nat}:Zq P .eql t x y (.mS f s o n c k) .nS=some (.bool false):=by simp[Zq,Qis,hu,Jr,Qyf,V.isNil]
theorem Q67(C F1 F2 F3:AM.Frame)(cs:List V)(n:Nat)(cap:Option Nat)(hg:Qd [C,F1,F2,F3] 2 21=some (.cells cs))(hl:cs.length=n*12)(hn0:0<n)(hn:n<=65536)(hsc:cs.all V.scalar=true):
 CW Tp Qg 26 [.mS 2 21 0 n cap 12] [C,F1,F2,F3] fun r H' =>r= .ret (.mS 4 7 0 n none 12)/\H' =[C,F1,F2,F3,clF cs]:=by
 refine Zu Tryz.func26 rfl ?_;have e:=fun p q=>Q4p (P:=Tp) Zu2 (x:=p) (y:=q) (f:=2) (s:=21) (o:=0) (n:=n) (c:=cap) (k:=12);have mt5:Qg.mt 26 5=true:=rfl;have mt7:Qg.mt 26 7=true:=rfl;obtain⟨b,hb,hb2⟩:=bycC;have sc:Qk (Qd [C,F1,F2,F3,[(5,O.cells [])]]) 12 (.mS 2 21 0 n cap 12)=some (cs,n):=by have h2:Qd [C,F1,F2,F3,[(5,O.cells [])]] 2 21=some (.cells cs):=hg;simp only[Qk,h2];rw[if_pos ⟨trivial,by omega⟩,Zpe,Zpf (by omega)]
 have ap:Qr Tp (Qg.mt 26) 4 (Qd [C,F1,F2,F3,[(5,O.cells [])]]) (some 7) 34 34 (.mS 4 5 0 0 (some 0) 12) (.mS 2 21 0 n cap 12)=some (.val (.mS 4 7 0 n none 12) (some (4,7,.cells cs))):=by obtain⟨m,rfl⟩:∃m,n=m+1:=⟨n-1,by omega⟩;have r1:J4 (0+(m+1)) b=true:=Zw (Zn7 (Zra (by omega:0+(m+1)<=65536) hb2) (by decide)) (by omega);have zl:zeroCells Tp 43=some _:=zc43;have n7:Qd [C,F1,F2,F3,[(5,O.cells [])]] 4 7=none:=rfl;have g5:Qd [C,F1,F2,F3,[(5,O.cells [])]] 4 5=some (.cells []):=rfl;have gm:=Qav (mt:=Qg.mt 26) (g:=Qd [C,F1,F2,F3,[(5,O.cells [])]]) (fr:=4) (d:=7) (cs:=cs) (m:=m+1) (n:=12) (chk:=cs) mt7 hsc n7;simp only[Qr,Zu2,Qdq,hb,zl,Ji,sc,appendTo,g5,r1];simpa using gm
 simp only[wX,↓Qc,simprocAttr,Tryz.ntmps26,e,mt5,Qv,ap,Zu2];refine W.done (End.ret (v:= .mS 4 7 0 n none 12) rfl ⟨rfl,Zj rfl⟩)
theorem Zaj{P:Program}{mt:Nat->Bool}{fr:Nat}{g:Get}{d:Option Nat}{t:TypeId}{x:V}:builtinV P mt fr g d .clear #[t] [x]=clearV P g t x:=rfl
theorem Qxa{n i:Nat}(h:i<n):∀g,Zn Tp g 34 (.mS 4 7 0 n none 12) (some (.int .i64 i)) none none=some (.mS 4 7 (i*12) (n-i) none 12):=by intro g;have ol:∀x:Nat,Jt (some (.int .i64 x))=some (some (x:Int)):=fun x=>rfl;have on:Jt none=some none:=rfl;simp only[Zn,ol,on,Zu2,Qdq,if_true,Qjg,Xh,Zo0,Zpb];rw[if_pos ⟨by omega,by omega,by omega,by omega,by omega,by omega,by simp⟩];simp[h]
theorem Zbl{n i:Nat}(h:i<=n)(h0:0<n):∀g,Zn Tp g 34 (.mS 4 7 0 n none 12) none (some (.int .i64 i)) none=some (.mS 4 7 0 i none 12):=by intro g;have ol:∀x:Nat,Jt (some (.int .i64 x))=some (some (x:Int)):=fun x=>rfl;have on:Jt none=some none:=rfl;simp only[Zn,ol,on,Zu2,Qdq,if_true,Qjg,Xh,Zo0,Zpb];rw[if_pos ⟨by omega,by omega,by omega,by omega,by omega,by omega,by simp⟩];simp[h0]
theorem Za1{g:Get}{cs:List V}{n i:Nat}(hg:g 4 7=some (.cells cs))(hl:cs.length=n*12)(h:i<n):clearV Tp g 34 (.mS 4 7 (i*12) (n-i) none 12)=some (.val (.tuple []) (some (4,7,.cells (cs.take (i*12)++zerosN (Ql Qf3 .nS) (n-i))))):=by
 have zl:zeroCells Tp 43=some (Ql Qf3 .nS):=zc43;have e:splice cs (i*12) (zerosN (Ql Qf3 .nS) (n-i))=cs.take (i*12)++zerosN (Ql Qf3 .nS) (n-i):=by have hz:(zerosN (Ql Qf3 .nS) (n-i)).length=(n-i)*12:=Qp7 _ _;unfold splice;rw[hz,Zqe (by omega),Zou]
 simp only[clearV,Zu2,Qdq,zl,hg];rw[if_pos ⟨trivial,rfl⟩,if_neg (by omega),if_pos (by omega),e]
set_option maxHeartbeats 4000000 in
theorem Q6g(C F2:AM.Frame)(a:List V)(bv wv sv mv lw kw ow cw:V)(p:Kx)(id many e:Int)(l:List Qp)(ds:List (List UInt8))(cs:List V)(hc:Qo cs l ds)(hl:l.length<=65536)(hK:∀c∈l,KOk c)
 (hcl:Q2 (fun f _=>Nat.ble 3 f) [C,[(2,.cells a),(14,.cells (Qx (Qf bv wv sv mv lw kw ow cw p) id many e))],F2,[(1,.cells [.ptr 1 14 0])]]=true):
 CW Tp Qg 25 [.mS 4 7 0 l.length none 12,.func (.func 27) [] [.ptr 3 1 0]] [C,[(2,.cells a),(14,.cells (Qx (Qf bv wv sv mv lw kw ow cw p) id many e))],F2,[(1,.cells [.ptr 1 14 0])],clF cs] fun r H' =>
  ∃m cs' l' ds',r= .ret (.mS 4 7 0 m none 12)/\H' =[C,[(2,.cells a),(14,.cells (Qx (Qf bv wv sv mv lw kw ow cw p) id many e))],F2,[(1,.cells [.ptr 1 14 0])],clF cs']/\Qo cs' l' ds' /\l'.length=l.length/\m<=l.length/\∀c∈l',KOk c:=by
 refine Zu Tryz.func25 rfl ?_;have len:∀g,Ku Tp g 34 (.mS 4 7 0 l.length none 12)=some (.int .i64 l.length):=Qk5 Zu2;have clC:∀(cs:List V) (l:List Qp) (ds:List (List UInt8)),Qo cs l ds->Q2 (fun f _=>Nat.ble 3 f) [C,[(2,.cells a),(14,.cells (Qx (Qf bv wv sv mv lw kw ow cw p) id many e))],F2,[(1,.cells [.ptr 1 14 0])],clF cs]=true:=fun cs l ds h=>by
  have e1:=Zs (fun f _=>Nat.ble 3 f) [C,[(2,.cells a),(14,.cells (Qx (Qf bv wv sv mv lw kw ow cw p) id many e))],F2,[(1,.cells [.ptr 1 14 0])]] [clF cs];rw[hcl] at e1;refine e1.trans ?_;simp only[clF,Q2,Zg,Qbx,h.refs]
  try rfl
 have clS:∀(cs:List V) (l:List Qp) (ds:List (List UInt8)) (G:AM.Heap),Qo cs l ds->Q2 (fun f _=>Nat.ble 3 f) G=true->Q2 (fun f _=>Nat.ble 3 f) ([C,[(2,.cells a),(14,.cells (Qx (Qf bv wv sv mv lw kw ow cw p) id many e))],F2,[(1,.cells [.ptr 1 14 0])],clF cs]++G)=true:=fun cs l ds G h h2=>by rw[Zs,clC cs l ds h,h2];rfl
 have hidx:∀d,callOp Qg (Qn Tp Qg) 25 5 d 62 [.mS 4 7 0 l.length none 12,.func (.func 27) [] [.ptr 3 1 0]] [C,[(2,.cells a),(14,.cells (Qx (Qf bv wv sv mv lw kw ow cw p) id many e))],F2,[(1,.cells [.ptr 1 14 0])],clF cs,[]]=
  some (.ret (.int .i64 (Q8 (Qdg id) 0 l)),[C,[(2,.cells a),(14,.cells (Qx (Qf bv wv sv mv lw kw ow cw p) id many e))],F2,[(1,.cells [.ptr 1 14 0])],clF cs,[]]):=fun d=>by
  obtain⟨r,H',e1,rfl,rfl⟩:=Q0w C F2 a bv wv sv mv lw kw ow cw p id many e l ds cs hc hl (Qdo (clS cs l ds [[]] hc rfl) (by simp)) (Qdo (clS cs l ds [[],[]] hc rfl) (by simp));exact Za rfl rfl rfl e1
 have hdrop:∀(cs:List V) (l:List Qp) (ds:List (List UInt8)) (F5:AM.Frame) (c:Qp) (dv:V) (x:List UInt8),Qo cs l ds->Zg (fun f _=>Nat.ble 3 f) F5=true->Qe dv x->∀d,callOp Qg (Qn Tp Qg) 25 5 d 27 [.agg (Ql c dv),.ptr 3 1 0] [C,[(2,.cells a),(14,.cells (Qx (Qf bv wv sv mv lw kw ow cw p) id many e))],F2,[(1,.cells [.ptr 1 14 0])],clF cs,F5]=
  some (.ret (.bool (Qdg id c)),[C,[(2,.cells a),(14,.cells (Qx (Qf bv wv sv mv lw kw ow cw p) id many e))],F2,[(1,.cells [.ptr 1 14 0])],clF cs,F5]):=fun cs l ds F5 c dv x h hF h1 d=>by
  obtain⟨r,H',e1,rfl,rfl⟩:=Q51 C F2 (clF cs) F5 a bv wv sv mv lw kw ow cw p id many e c dv x h1 (Qdo (clS cs l ds [F5] h (by simp only[Q2,hF];rfl)) (by simp));exact Za rfl rfl rfl e1
 have pop:∀(cs:List V) (l:List Qp) (ds:List (List UInt8)) (m:Nat) (X:AM.Frame),Qo cs l ds->Yk 5 (.mS 4 7 0 m none 12) [C,[(2,.cells a),(14,.cells (Qx (Qf bv wv sv mv lw kw ow cw p) id many e))],F2,[(1,.cells [.ptr 1 14 0])],clF cs,X]=[C,[(2,.cells a),(14,.cells (Qx (Qf bv wv sv mv lw kw ow cw p) id many e))],F2,[(1,.cells [.ptr 1 14 0])],clF cs]:=fun cs l ds m X h=>Zf (H:=[C,[(2,.cells a),(14,.cells (Qx (Qf bv wv sv mv lw kw ow cw p) id many e))],F2,[(1,.cells [.ptr 1 14 0])],clF cs]) (G:=[X]) (v:= .mS 4 7 0 m none 12) rfl (Qdo (clC cs l ds h) (by simp));generalize hj:Qx (Qf bv wv sv mv lw kw ow cw p) id many e=jc at*;rcases Qby (Qdg id) l 0 with h1|⟨k,hk,h1,h2⟩
 . rw[h1] at hidx;simp only[wX,↓Qc,simprocAttr,Tryz.ntmps25,hidx];exact W.done (End.ret (v:= .mS 4 7 0 l.length none 12) rfl ⟨l.length,cs,l,ds,rfl,pop cs l ds _ _ hc,hc,rfl,Zn6 _,hK⟩)
 . rw[h1,Zod] at hidx;have c0:((k:Int)== -1)=false:=by
    rw[beq_eq_false_iff_ne];omega
   have w1:(IntKind.i64).wrap ((k:Int)+1)=((k+1:Nat):Int):=by rw[wrap_i64]<;>omega
   simp only[wX,↓Qc,simprocAttr,Tryz.ntmps25,hidx,c0,w1];refine W.ul ?_;refine W.loop (fun(q:Nat×Nat) t H=>∃cs' l' ds' F5,Jg [0,1,5,6] t 0=Zav (.mS 4 7 0 l.length none 12) (.func (.func 27) [] [.ptr 3 1 0]) (.int .i64 q.1) (.int .i64 q.2)/\q.1<q.2/\q.2<=l.length/\Qo cs' l' ds' /\l'.length=l.length/\(∀c∈l',KOk c)/\
    (F5=[]\/∃c,F5=[(7,.cells c)])/\H=[C,[(2,.cells a),(14,.cells jc)],F2,[(1,.cells [.ptr 1 14 0])],clF cs',F5]) (fun q=>l.length-q.2) ?_ (k,k+1)
    ⟨cs,l,ds,[],rfl,by simp,by simp;omega,hc,rfl,hK,.inl rfl,rfl⟩
   rintro⟨i,j⟩ t H ⟨cs',l',ds',F5,ht,hij,hj2,hc',hl',hK',hF,rfl⟩;simp only at ht hij hj2⊢;have hfor:forget Qg 25 5 5 t [C,[(2,.cells a),(14,.cells jc)],F2,[(1,.cells [.ptr 1 14 0])],clF cs',F5]=some (Jg [0,1,5,6] t 0,[C,[(2,.cells a),(14,.cells jc)],F2,[(1,.cells [.ptr 1 14 0])],clF cs',[]]):=by
    have e1:List.modify [C,[(2,.cells a),(14,.cells jc)],F2,[(1,.cells [.ptr 1 14 0])],clF cs',F5] 5 (Ju fun s=>[7].contains s)=[C,[(2,.cells a),(14,.cells jc)],F2,[(1,.cells [.ptr 1 14 0])],clF cs',[]]:=by rcases hF with rfl|⟨c,rfl⟩<;>rfl
    have:=Z7 (pol:=Qg) (fn:=25) (fr:=5) (r:=5) (kt:=[0,1,5,6]) (ds:=[7]) (t:=t) (H:=[C,[(2,.cells a),(14,.cells jc)],F2,[(1,.cells [.ptr 1 14 0])],clF cs',F5]) rfl (by rw[ht];rfl)
     (by
       rw[e1];refine Xm (fun f s h=>?_) _ (clS cs' l' ds' [[]] hc' rfl);simp only[Zok,beq_iff_eq] at h
       rw[h.1];rfl)
    rw[e1] at this;exact this
   refine⟨_,_,hfor,?_⟩;rw[ht];simp only[Zav];have hcl' :=Qbg hc';have key:j<l.length\/¬j<l.length:=Classical.em _;rcases key with h0|h0
   . have c1:decide ((j:Int)<l.length)=true:=Zrh (by omega);have wj:(IntKind.i64).wrap ((j:Int)+1)=((j+1:Nat):Int):=by rw[wrap_i64]<;>omega
     have wi:(IntKind.i64).wrap ((i:Int)+1)=((i+1:Nat):Int):=by rw[wrap_i64]<;>omega
     have atj:=Qir (P:=Tp) Zu2 Qdq (f:=4) (s:=7) (o:=0) (len:=l.length) (cap:=none) (k:= .i64) (i:=(j:Int)) (by omega) (by omega);have ati:=Qir (P:=Tp) Zu2 Qdq (f:=4) (s:=7) (o:=0) (len:=l.length) (cap:=none) (k:= .i64) (i:=(i:Int)) (by omega) (by omega);rw[show(0+(j:Int).toNat*12)=j*12 by omega] at atj;rw[show(0+(i:Int).toNat*12)=i*12 by omega] at ati;have hjl:j<l'.length:=by omega
     obtain⟨dv,q0,hi2,q1,q2⟩:=hc'.at2 hjl;have hKj:=hK' _ (Zp8 hjl);generalize l'[j]=c at*;generalize ds'[j]=x at*;have rdc:Q3 Tp 43 cs' (j*12)=some (.agg (Ql c dv)):=by rw[Quz,if_pos (by omega),q0]
     have hcall:=hdrop cs' l' ds' [(7,.cells (Ql c dv))] c dv x hc' (by
      have nr:=Qw.noRefs q1 (fun f _=>Nat.ble 3 f)
      simp only[Zg,Qbx,Ql,Qi,V.refs,nr];rfl) q1
     have s1:=Q4 q1;have s2:=Q7 q1;have le1:i*12+12<=cs'.length:=by omega
     have hput:=hc'.put (i:=i) (by omega) q1 q2;cases c2:Qdg id c
     . rw[c2] at hcall;obtain⟨d1,d2,d3,d4,d5,d6,d7,⟨p1,p2,p3,p4,p5⟩⟩:=c;simp only[Ql] at hcall rdc hput;simp only[wX,↓Qc,simprocAttr,len,c1,atj,ati,rdc,hcall,s1,s2,le1,wi,wj];refine W.done ⟨(i+1,j+1),⟨_,_,_,_,rfl,by simp only;omega,by simp only;omega,hput,by rw[Zql];exact hl',fun y hy=>?_,.inr ⟨_,rfl⟩,rfl⟩,by simp only;omega⟩;rcases Zq6 hy with hy|rfl
       . exact hK' y hy
       . exact hKj
     . rw[c2] at hcall;obtain⟨d1,d2,d3,d4,d5,d6,d7,⟨p1,p2,p3,p4,p5⟩⟩:=c;simp only[Ql] at hcall rdc;simp only[wX,↓Qc,simprocAttr,len,c1,atj,ati,rdc,hcall,s1,s2,le1,wi,wj];exact W.done ⟨(i,j+1),⟨cs',l',ds',_,rfl,by simp only;omega,by simp only;omega,hc',hl',hK',.inr ⟨_,rfl⟩,rfl⟩,by simp only;omega⟩
   . have c1:decide ((j:Int)<l.length)=false:=Zri (by omega);have sl1:=Qxa (n:=l.length) (i:=i) (by omega);have sl2:=Zbl (n:=l.length) (i:=i) (by omega) (by omega);have hclr:=fun(g:Get) (hg:g 4 7=some (.cells cs'))=>Za1 (n:=l.length) (i:=i) hg (by omega) (by omega);have hclr1:=hclr (Qd [C,[(2,.cells a),(14,.cells jc)],F2,[(1,.cells [.ptr 1 14 0])],clF cs',[]]) rfl;simp only[wA,↓Qc,simprocAttr,len,c1];refine W.done ?_;simp only[wX,↓Qc,simprocAttr,sl1,sl2,Zaj,hclr1];have hz:=(hc'.take i).app (Qo.zeros (l.length-i));refine W.done (End.ret (v:= .mS 4 7 0 i none 12) rfl ⟨i,_,_,_,rfl,pop _ _ _ _ _ hz,hz,?_,by omega,fun y hy=>?_⟩)
     . simp only[Zom,Zo1,Zq5];omega
     . rcases Zog.1 hy with hy|hy
       . exact hK' y (List.mem_of_mem_take hy)
       . rw[List.eq_of_mem_replicate hy];exact⟨⟨by decide,by decide⟩,by decide,by decide⟩
end Go.Proofs.YtjllfbejpjonnaaGreatDoor
namespace Go.Proofs.YtjllfbejpjonnaaGreatDoor
open Go.AM
attribute [local irreducible] U W
theorem Qut(n k:Nat)(hn:n<=281474976710656)(hk:k<=4):Fz Tp Qg 67 [.int .i64 n,.int .i64 k] RPut:=by
 obtain⟨r,H,h1,v0,rfl,_,h2⟩:=Q7x n k hn (by omega);refine⟨v0,H,_,h1,h2,?_⟩;unfold Qn5;split
 . exact⟨_,[],2,rfl,Qe.nil,by simp⟩
 . exact⟨_,leB n k,0,rfl,by have:=Qe.mk (leB n k) false;rwa[Qaf] at this,by rw[Qaf];omega⟩
def RPtrW(x:V):Prop:=∃(v:V) (l:List UInt8) (e:Int),x= .tuple [v,.int .i64 e]/\Qe v l/\l.length<=100
def Qn4(L:List UInt8):V:=if L.length=0 then .nS else .gS 0 45 (Qb L) L.length 1
def Ql0(p c:List V)(L:List UInt8):AM.Heap:=if L.length=0 then[[(1,.cells p),(5,.cells c)]] else[[(1,.cells p),(5,.cells c),(45,.grow L.length)]]
theorem Zcm(p c:List V)(L:List UInt8):Qd (Ql0 p c L) 0 5=some (.cells c):=by unfold Ql0;split<;>rfl
theorem Qk9(p c:List V)(L l:List UInt8)(v:V)(hv:Qe v l)(h1:l.length<=4)(h2:L.length<=100):
 ∃w,Qr Tp (Qg.mt 114) 0 (Qd (Ql0 p c L)) (some 45) 26 26 (Qn4 L) v=some (.val (Qn4 (L++l)) w)/\wr (Ql0 p c L) w=Ql0 p c (L++l):=by
 have mt45:Qg.mt 114 45=false:=B2 (by decide) rfl;obtain⟨b,hb,hb2⟩:=bycB;have sc:∀g,Qk g 1 v=some (Qb l,l.length):=fun g=>Qw.sc hv;by_cases hl:l.length=0
 . have:l=[]:=Zoz hl;subst this;refine⟨none,?_,by rw[Zou];rfl⟩;rw[Zou];refine Qbe Zu0 sz5 hb zc5 rfl Zu0 ?_ (sc _);unfold Qn4;split<;>rfl
 . by_cases hL:L.length=0
   . have:L=[]:=Zoz hL;subst this;refine⟨some (0,45,.grow l.length),?_,?_⟩
     . show Qr _ _ _ (Qd [[(1,.cells p),(5,.cells c)]]) _ _ _ .nS v=_;rw[Qcp Zu0 sz5 hb zc5 rfl Zu0 (sc _) (by omega) (Zw (Zn7 (Zra (by omega:l.length<=65536) hb2) (by decide)) (by omega)),Kr mt45 (Ja l) rfl];simp[Qn4,hl]
     . have e:Ql0 p c ([]++l)=[[(1,.cells p),(5,.cells c),(45,.grow l.length)]]:=by simp[Ql0,hl]
       rw[e];rfl
   . have e1:Qn4 L= .gS 0 45 (Qb L) L.length 1:=by simp[Qn4,hL]
     have e2:Ql0 p c L=[[(1,.cells p),(5,.cells c),(45,.grow L.length)]]:=by simp[Ql0,hL]
     refine⟨some (0,45,.grow (L.length+l.length)),?_,?_⟩
     . rw[e1,e2,Qc8 Zu0 sz5 hb zc5 rfl Zu0 (sc _) (by omega) (Zw (Zn7 (Zra (by omega:L.length+l.length<=65536) hb2) (by decide)) (by omega)) (Ja l) (Z8 l) rfl];have hne:¬(L.length+l.length)=0:=by omega
       simp only[Qn4,Zom,hne,if_false,K9]
     . have hne:¬(L.length+l.length)=0:=by omega
       have e3:Ql0 p c (L++l)=[[(1,.cells p),(5,.cells c),(45,.grow (L.length+l.length))]]:=by simp only[Ql0,Zom,hne,if_false]
       rw[e2,e3];rfl
theorem Zb8(p c:List V)(L:List UInt8):∃v',AM.frz (Qd (Ql0 p c L)) depth (.tuple [Qn4 L,.int .i64 0])=some (.tuple [v',.int .i64 0])/\Qe v' L:=by
 by_cases hL:L.length=0
 . have:L=[]:=Zoz hL;subst this;exact⟨.nS,rfl,Qe.nil⟩
 . have e1:Qn4 L= .gS 0 45 (Qb L) L.length 1:=by simp[Qn4,hL]
   refine⟨.iS (Qb L) L.length false,?_,Qe.mk L false⟩;rw[e1];refine K3 (Qa ?_ (Qa rfl rfl));show(Q5 (AM.frz _ 10) (Qb L)).map _=_;rw[Bu];rfl
theorem Qxl(p:Yb):Fz Tp Qg 114 [.agg p.cells] RPtrW:=by
 refine Zm Tryz.func114 rfl ?_;obtain⟨m,rfl,hm⟩:=(Qce p).op (by rfl) rfl;have hm1:∀s H,_:=fun s H=>hm 114 0 s H rfl;obtain⟨m,rfl,hm⟩:=Q72.op (by rfl) rfl;have hmS:∀s H,_:=fun s H=>hm 114 0 s H rfl;cases hok:Qe5 p
 . obtain⟨p1,p2,p3,p4,p5⟩:=p;simp only[hok,okE,Yb.cells] at hm1⊢;simp only[wX,↓Qc,simprocAttr,Tryz.ntmps114,hm1];exact W.done (Q0.ret (v:= .tuple [.nS,.int .i64 8]) rfl rfl ⟨_,[],8,rfl,Qe.nil,by simp⟩)
 . have rg:(0<=p.at_/\p.at_<256)/\0<=p.birth/\p.birth<=16777215:=by
    by_cases h0:p=Bf
    . subst h0;exact⟨⟨by decide,by decide⟩,by decide,by decide⟩
    . simp only[Qe5,h0,decide_false,Zpa,Q2g,Zoy,Zox,decide_eq_false_iff_not] at hok;omega
   have cv:∀g (n:Int),convertV Tp g 27 3 (.int .u32 n)=some (.val (.int .i64 ((IntKind.i64).wrap n)) none):=fun g n=>by simp only[convertV,Zu3,Zu7]
   have r2:=Qdv p.iv;have r3:=Qdv p.tag;have r4:=Qdv p.sum;have wb:(IntKind.i64).wrap p.birth=p.birth:=by rw[wrap_i64]<;>omega
   obtain⟨p1,p2,p3,p4,p5⟩:=p;simp only at rg r2 r3 r4 wb;simp only[hok,okE,Yb.cells] at hm1⊢;obtain⟨n1,rfl⟩:∃n:Nat,p1=n:=⟨p1.toNat,by omega⟩;obtain⟨n2,rfl⟩:∃n:Nat,p2=n:=⟨p2.toNat,by omega⟩;generalize hw3:(IntKind.i64).wrap p3=w3 at*;generalize hw4:(IntKind.i64).wrap p4=w4 at*;generalize hw5:(IntKind.i64).wrap p5=w5 at*;have g:∀(n k:Int),Fz Tp Qg 67 [.int .i64 n,.int .i64 k] RPut->∃v l e,Qe v l/\l.length<=4/\∀s H,callOp Qg (Qn Tp Qg) 114 0 s 67 [.int .i64 n,.int .i64 k] H=some (.ret (.tuple [v,.int .i64 e]),H):=fun n k h=>by obtain⟨m,⟨v,l,e,rfl,h1,h2⟩,hm⟩:=h.op (by rfl) rfl;exact⟨v,l,e,h1,h2,fun s H=>hm 114 0 s H rfl⟩
   obtain⟨v0,l0,e0,b0,c0,g0⟩:=g n1 1 (Qut n1 1 (by omega) (by omega));obtain⟨v1,l1,e1,b1,c1,g1⟩:=g n2 3 (Qut n2 3 (by omega) (by omega));obtain⟨v2,l2,e2,b2,c2,g2⟩:=g w3 4 (Qat w3 r2);obtain⟨v3,l3,e3,b3,c3,g3⟩:=g w4 4 (Qat w4 r3);obtain⟨v4,l4,e4,b4,c4,g4⟩:=g w5 4 (Qat w5 r4);clear g;have bv:∀a b c d e:Int,By Tp 241 [(0,V.int .i64 a),(1,.int .i64 b),(2,.int .i64 c),(3,.int .i64 d),(4,.int .i64 e)]=some (.agg [.int .i64 a,.int .i64 b,.int .i64 c,.int .i64 d,.int .i64 e]):=fun a b c d e=>by kernel_rfl
   simp only[wX,↓Qc,simprocAttr,Tryz.ntmps114,hm1,cv,hw3,hw4,hw5,wb,bv,hmS];have i0:Xs Tp 241 (.agg [.int .i64 1,.int .i64 3,.int .i64 4,.int .i64 4,.int .i64 4]) (.int .i64 0)=some (.int .i64 1):=by simp only[Xs,Zu9,sz3];rfl
   have a0:Qm Tp 241 (.ptr 0 5 0) (.int .i64 0)=some (.ptr 0 5 0):=by simp only[Qm,Zu9,sz3];rfl
   have q1:(IntKind.i64).wrap 1=1:=by rw[wrap_i64]<;>omega
   have i1:Xs Tp 241 (.agg [.int .i64 1,.int .i64 3,.int .i64 4,.int .i64 4,.int .i64 4]) (.int .i64 1)=some (.int .i64 3):=by simp only[Xs,Zu9,sz3];rfl
   have a1:Qm Tp 241 (.ptr 0 5 0) (.int .i64 1)=some (.ptr 0 5 1):=by simp only[Qm,Zu9,sz3];rfl
   have q2:(IntKind.i64).wrap 2=2:=by rw[wrap_i64]<;>omega
   have i2:Xs Tp 241 (.agg [.int .i64 1,.int .i64 3,.int .i64 4,.int .i64 4,.int .i64 4]) (.int .i64 2)=some (.int .i64 4):=by simp only[Xs,Zu9,sz3];rfl
   have a2:Qm Tp 241 (.ptr 0 5 0) (.int .i64 2)=some (.ptr 0 5 2):=by simp only[Qm,Zu9,sz3];rfl
   have q3:(IntKind.i64).wrap 3=3:=by rw[wrap_i64]<;>omega
   have i3:Xs Tp 241 (.agg [.int .i64 1,.int .i64 3,.int .i64 4,.int .i64 4,.int .i64 4]) (.int .i64 3)=some (.int .i64 4):=by simp only[Xs,Zu9,sz3];rfl
   have a3:Qm Tp 241 (.ptr 0 5 0) (.int .i64 3)=some (.ptr 0 5 3):=by simp only[Qm,Zu9,sz3];rfl
   have q4:(IntKind.i64).wrap 4=4:=by rw[wrap_i64]<;>omega
   have i4:Xs Tp 241 (.agg [.int .i64 1,.int .i64 3,.int .i64 4,.int .i64 4,.int .i64 4]) (.int .i64 4)=some (.int .i64 4):=by simp only[Xs,Zu9,sz3];rfl
   have a4:Qm Tp 241 (.ptr 0 5 0) (.int .i64 4)=some (.ptr 0 5 4):=by simp only[Qm,Zu9,sz3];rfl
   have q5:(IntKind.i64).wrap 5=5:=by rw[wrap_i64]<;>omega
   have tg:=Zcm [.int .i64 n1,.int .u32 n2,.int .u32 p3,.int .u32 p4,.int .u32 p5] [.int .i64 n1,.int .i64 n2,.int .i64 w3,.int .i64 w4,.int .i64 w5];refine W.ul ?_;refine W.loop (fun(i:Nat) t H=>∃L:List UInt8,L.length<=4*i/\i<=5/\Jg [2,5,30,31] t 0=Q3j (Qn4 L) (.ptr 0 5 0) (.agg [.int .i64 1,.int .i64 3,.int .i64 4,.int .i64 4,.int .i64 4]) (.int .i64 i)/\
    H=Ql0 [.int .i64 n1,.int .u32 n2,.int .u32 p3,.int .u32 p4,.int .u32 p5] [.int .i64 n1,.int .i64 n2,.int .i64 w3,.int .i64 w4,.int .i64 w5] L) (fun i=>5-i) ?_ 0 ⟨[],by simp,by omega,rfl,rfl⟩
   rintro i t H ⟨L,hL,hi,ht,rfl⟩;refine⟨_,_,Zx (kt:=[2,5,30,31]) rfl rfl,?_⟩;rw[ht];simp only[Q3j];have hi' :i=0\/i=1\/i=2\/i=3\/i=4\/i=5:=by omega
   rcases hi' with rfl|rfl|rfl|rfl|rfl|rfl
   . obtain⟨w,ap,hwr⟩:=Qk9 [.int .i64 n1,.int .u32 n2,.int .u32 p3,.int .u32 p4,.int .u32 p5] [.int .i64 n1,.int .i64 n2,.int .i64 w3,.int .i64 w4,.int .i64 w5] L l0 v0 b0 c0 (by omega);simp only[wA,↓Qc,simprocAttr,ta,wB,i0,a0,q1,tg,g0,Qv,ap,hwr];exact W.done ⟨1,⟨L++l0,by rw[Zom];omega,by omega,rfl,rfl⟩,by omega⟩
   . obtain⟨w,ap,hwr⟩:=Qk9 [.int .i64 n1,.int .u32 n2,.int .u32 p3,.int .u32 p4,.int .u32 p5] [.int .i64 n1,.int .i64 n2,.int .i64 w3,.int .i64 w4,.int .i64 w5] L l1 v1 b1 c1 (by omega);simp only[wA,↓Qc,simprocAttr,ta,wB,i1,a1,q2,tg,g1,Qv,ap,hwr];exact W.done ⟨2,⟨L++l1,by rw[Zom];omega,by omega,rfl,rfl⟩,by omega⟩
   . obtain⟨w,ap,hwr⟩:=Qk9 [.int .i64 n1,.int .u32 n2,.int .u32 p3,.int .u32 p4,.int .u32 p5] [.int .i64 n1,.int .i64 n2,.int .i64 w3,.int .i64 w4,.int .i64 w5] L l2 v2 b2 c2 (by omega);simp only[wA,↓Qc,simprocAttr,ta,wB,i2,a2,q3,tg,g2,Qv,ap,hwr];exact W.done ⟨3,⟨L++l2,by rw[Zom];omega,by omega,rfl,rfl⟩,by omega⟩
   . obtain⟨w,ap,hwr⟩:=Qk9 [.int .i64 n1,.int .u32 n2,.int .u32 p3,.int .u32 p4,.int .u32 p5] [.int .i64 n1,.int .i64 n2,.int .i64 w3,.int .i64 w4,.int .i64 w5] L l3 v3 b3 c3 (by omega);simp only[wA,↓Qc,simprocAttr,ta,wB,i3,a3,q4,tg,g3,Qv,ap,hwr];exact W.done ⟨4,⟨L++l3,by rw[Zom];omega,by omega,rfl,rfl⟩,by omega⟩
   . obtain⟨w,ap,hwr⟩:=Qk9 [.int .i64 n1,.int .u32 n2,.int .u32 p3,.int .u32 p4,.int .u32 p5] [.int .i64 n1,.int .i64 n2,.int .i64 w3,.int .i64 w4,.int .i64 w5] L l4 v4 b4 c4 (by omega);simp only[wA,↓Qc,simprocAttr,ta,wB,i4,a4,q5,tg,g4,Qv,ap,hwr];exact W.done ⟨5,⟨L++l4,by rw[Zom];omega,by omega,rfl,rfl⟩,by omega⟩
   . have c1:decide (((5:Nat):Int)<5)=false:=rfl;obtain⟨v',hf,hb'⟩:=Zb8 [.int .i64 n1,.int .u32 n2,.int .u32 p3,.int .u32 p4,.int .u32 p5] [.int .i64 n1,.int .i64 n2,.int .i64 w3,.int .i64 w4,.int .i64 w5] L;simp only[wX,↓Qc,simprocAttr,c1];refine W.done ?_;simp only[wX,↓Qc,simprocAttr];exact W.done (Q0.ret (v:= .tuple [Qn4 L,.int .i64 0]) rfl hf ⟨v',L,0,rfl,hb',by omega⟩)
end Go.Proofs.YtjllfbejpjonnaaGreatDoor
end
