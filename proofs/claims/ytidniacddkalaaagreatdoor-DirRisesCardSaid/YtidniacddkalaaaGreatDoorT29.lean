/- This file holds in one the texts D00, D0; each says at its head what it proves. -/
import Derived.Test.YtidniacddkalaaaGreatDoorT13
import Derived.Test.YtidniacddkalaaaGreatDoorT16
import Derived.Test.YtidniacddkalaaaGreatDoorT17
import Derived.Test.YtidniacddkalaaaGreatDoorChecked
set_option linter.unusedSimpArgs false
set_option linter.unusedVariables false
namespace Go.Proofs.YtidniacddkalaaaGreatDoor
section
open Go.AM
theorem Qzk{α:Type}(g:α->Bool)(l:List α)(c:Nat):∀k:Nat,(∀i,i<k->((l.drop (c*i)).take c).all g=true)->(l.drop (c*k)).all g=true->l.all g=true
 |0,_,h=>by simpa using h
 |k+1,h1,h2=>by
  refine Qzk g l c k (fun i hi=>h1 i (by omega)) ?_;have e:l.drop (c*k)=(l.drop (c*k)).take c++l.drop (c*(k+1)):=by have:=(Zse c (l.drop (c*k))).symm;rw[Zsh] at this;rw[Nat.mul_succ];exact this
  rw[e,Zte,h1 k (by omega),h2];rfl
def gD(F:Func):Bool:=match F.body with|some c=>drawsC c|none=>true
def gN(F:Func):Bool:=F.body.isNone|| !(F.name== "runtime.NumGoroutine")
def gL(F:Func):Bool:=match F.body with|some c=>decide ((Q1 c).Nodup)&&flatC c|none=>true
theorem dr0:((Tryz.prog.funcs.toList.drop (40*0)).take 40).all gD=true:=by kernel_rfl
theorem dr1:((Tryz.prog.funcs.toList.drop (40*1)).take 40).all gD=true:=by kernel_rfl
theorem dr2:((Tryz.prog.funcs.toList.drop (40*2)).take 40).all gD=true:=by kernel_rfl
theorem dr3:((Tryz.prog.funcs.toList.drop (40*3)).take 40).all gD=true:=by kernel_rfl
theorem dr4:((Tryz.prog.funcs.toList.drop (40*4)).take 40).all gD=true:=by kernel_rfl
theorem dr5:((Tryz.prog.funcs.toList.drop (40*5)).take 40).all gD=true:=by kernel_rfl
theorem dr6:((Tryz.prog.funcs.toList.drop (40*6)).take 40).all gD=true:=by kernel_rfl
theorem dr7:((Tryz.prog.funcs.toList.drop (40*7)).take 40).all gD=true:=by kernel_rfl
theorem drE:(Tryz.prog.funcs.toList.drop (40*8)).all gD=true:=by kernel_rfl
theorem Q45:Tryz.prog.funcs.all gD=true:=by
 rw[<-Array.all_toList];refine Qzk gD _ 40 8 ?_ drE;intro i hi
 match i,hi with
 |0,_=>exact dr0
 |1,_=>exact dr1
 |2,_=>exact dr2
 |3,_=>exact dr3
 |4,_=>exact dr4
 |5,_=>exact dr5
 |6,_=>exact dr6
 |7,_=>exact dr7
 |n+8,h=>omega
theorem Zcj:Tryz.prog.funcs.all gN=true:=by kernel_rfl
theorem Q7k:Tryz.prog.funcs.all gL=true:=by kernel_rfl
def inlD:List Nat:=[142,125,178,137,85,233,74,50,75,117,43,116,35,182,36,171]
def mtL(f s:Nat):Bool:=[(142,32),(31,5),(31,7),(85,5),(85,7),(123,7),(171,22)].contains (f,s)
def mtD:Nat->Nat->Bool:=fun f s=>if s<2000000 then mtL f s else !(f==98&&s==2000002||f==26&&s==2000003)
def Qg:Pol where
 pure:=fun f g=>(!inlD.contains g&& !(g==123&&f==182))||(g==137&&f==136||g==50&&f==26||g==35&&f==16)
 mt:=mtD
 keep:=fun f r=>match f,r with
  |112,3=>some ([1,3,19,20,21],[])
  |112,8=>some ([3,33,34,35],[7])
  |125,3=>some ([1,2,3,11,12,13],[])
  |125,9=>some ([1,2,27,28,29],[])
  |125,14=>some ([2,43,44,45],[9])
  |137,3=>some ([2,4,16],[6])
  |142,3=>some ([0,2,3,9,10,11],[])
  |142,9=>some ([2,6,21,22,23],[32])
  |143,8=>some ([7,8],[])
  |178,3=>some ([1,5,10,11,12],[7])
  |168,5=>some ([0,3,4],[])
  |181,2=>some ([2,4,5,6],[])
  |139,3=>some ([0,2,3,4],[])
  |58,1=>some ([0,1,2,4],[])
  |232,1=>some ([0,1,3],[])
  |77,4=>some ([0,1,6],[])
  |120,3=>some ([3,9,10],[])
  |41,4=>some ([1,34,35,36],[])
  |41,12=>some ([1,108,109,110],[6])
  |43,2=>some ([0,1,7,8],[])
  |50,2=>some ([0,1,7,8],[])
  |69,4=>some ([0,10,11,12],[4])
  |69,10=>some ([0,51,52,53],[4,6])
  |53,3=>some ([0,2,4,8,9,10],[])
  |118,3=>some ([0,1,2,8,9,10],[])
  |114,4=>some ([0,8,9,10],[4])
  |94,3=>some ([3,6,7,8],[])
  |175,6=>some ([0,2,4,5,13,14],[])
  |188,2=>some ([0,1,7,8],[])
  |121,3=>some ([0,3,9,10,11],[])
  |121,11=>some ([6,25,26,27],[])
  |36,3=>some ([3,6,7,8],[5])
  |5,5=>some ([1,3,4],[])
  |5,9=>some ([1,3,5],[])
  |5,13=>some ([1,3,6],[])
  |5,17=>some ([1,3,7],[])
  |25,5=>some ([1,3,4],[])
  |25,9=>some ([1,3,5],[])
  |3,10=>some ([1,2,3,8,10,11,12,13],[])
  |62,2=>some ([1,2,10],[])
  |59,3=>some ([0,1,2,8,9,10],[])
  |140,7=>some ([8,9,28,29,30],[])
  |235,2=>some ([0,1,2,4],[])
  |93,1=>some ([0,1,2,4],[])
  |100000,2=>some ([3,4,5,8,9],[25,26])
  |_,_=>none
 thin:=fun _ g=>g==142
 lift:=fun f g=>g==85||g==123&&f==182||g==171||g==36
 look:=fun _ g=>g==35
 prim:=fun f=>if f=200 then some Xa else if f=141 then some Yl else none
theorem Q74(f s:Nat):Qg.mt f (Qn7 s)=if f=98 then(if s=2 then false else true) else if f=26 then(if s=3 then false else true) else true:=by
 have e0:Qg.mt=mtD:=rfl;have hb:Qn7 s=s+2000000:=by unfold Qn7;rfl
 have e2:(s+2000000==2000002)=(s==2):=by rw[Bool.eq_iff_iff,beq_iff_eq,beq_iff_eq];omega
 have e3:(s+2000000==2000003)=(s==3):=by rw[Bool.eq_iff_iff,beq_iff_eq,beq_iff_eq];omega
 rw[e0,hb];unfold mtD;rw[if_neg (by omega),e2,e3];by_cases h1:f=98
 . subst h1;by_cases h2:s=2
   . subst h2;rfl
   . have:(s==2)=false:=by simpa using h2
     rw[this,if_pos rfl,if_neg h2];rfl
 . have g1:(f==98)=false:=by simpa using h1
   rw[g1,if_neg h1];by_cases h2:f=26
   . subst h2;by_cases h3:s=3
     . subst h3;rfl
     . have:(s==3)=false:=by simpa using h3
       rw[this,if_pos rfl,if_neg h3];rfl
   . have g2:(f==26)=false:=by simpa using h2
     rw[g2,if_neg h2];rfl
theorem Qch{f s:Nat}(h:s<2000000)(hf:mtL f s=false):Qg.mt f s=false:=by have e0:Qg.mt=mtD:=rfl;rw[e0];unfold mtD;rw[if_pos h,hf]
theorem xCnt:Kl Tryz.prog 200 Extern.BytealgCount.count:=⟨Tryz.f200,Tryz.func200,by kernel_rfl,by kernel_rfl,by kernel_rfl,by kernel_rfl⟩
theorem xCmpD:Kl Tryz.prog 141 Extern.BytealgCompare.compare:=⟨Tryz.f141,Tryz.func141,by kernel_rfl,by kernel_rfl,by kernel_rfl,by kernel_rfl⟩
theorem okD:Okay Tryz.prog Qg where
 mixed:=Tryz.checked.mixed
 draws:=fun f F c hF hc=>by have:=Ztm.1 Q45 F (Zt9 hF);unfold gD at this;rwa[hc] at this
 loops:=fun f F c hF hc=>by have:=Ztm.1 Q7k F (Zt9 hF);unfold gL at this;rw[hc] at this;simpa using this
 num:=fun f F hF hb=>by
  have:=Ztm.1 Zcj F (Zt9 hF);unfold gN at this;cases hn:F.body with
  |none=>rw[hn] at hb;cases hb
  |some c=>rw[hn] at this;simpa using this
 prim:=fun f g hg B F H E fr dst args cargs v x S hlt hr h=>by
  by_cases hf:f=200
  . subst hf;have e:Qg.prim 200=some Xa:=rfl;rw[e] at hg;cases hg;exact sound_count xCnt S hr h
  . by_cases hc:f=141
    . subst hc;have e:Qg.prim 141=some Yl:=rfl;rw[e] at hg;cases hg;exact sound_compare xCmpD S hr h
    . have e:Qg.prim f=none:=by
       show(if f=_ then _ else if f=_ then _ else none)=none;rw[if_neg hf,if_neg hc]
      rw[e] at hg;cases hg
end
end Go.Proofs.YtidniacddkalaaaGreatDoor
