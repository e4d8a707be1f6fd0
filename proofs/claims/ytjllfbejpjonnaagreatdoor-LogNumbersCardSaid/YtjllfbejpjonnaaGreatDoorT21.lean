/- This file holds in one the texts D00, D0, DF, DG, DH; each says at its head what it proves. -/
import Derived.Test.YtjllfbejpjonnaaGreatDoorT10
import Derived.Test.YtjllfbejpjonnaaGreatDoorT12
import Derived.Test.YtjllfbejpjonnaaGreatDoorChecked
set_option linter.unusedSimpArgs false
set_option linter.unusedVariables false
namespace Go.Proofs.YtjllfbejpjonnaaGreatDoor
section
open Go.AM
theorem Qxo{α:Type}(g:α->Bool)(l:List α)(c:Nat):∀k:Nat,(∀i,i<k->((l.drop (c*i)).take c).all g=true)->(l.drop (c*k)).all g=true->l.all g=true
 |0,_,h=>by simpa using h
 |k+1,h1,h2=>by
  refine Qxo g l c k (fun i hi=>h1 i (by omega)) ?_;have e:l.drop (c*k)=(l.drop (c*k)).take c++l.drop (c*(k+1)):=by have:=(Zoi c (l.drop (c*k))).symm;rw[Zol] at this;rw[Nat.mul_succ];exact this
  rw[e,Zqf,h1 k (by omega),h2];rfl
def gD(F:Func):Bool:=match F.body with|some c=>drawsC c|none=>true
def gN(F:Func):Bool:=F.body.isNone|| !(F.name== "runtime.NumGoroutine")
def gL(F:Func):Bool:=match F.body with|some c=>decide ((Q9 c).Nodup)&&flatC c|none=>true
theorem dr0:((Tryz.prog.funcs.toList.drop (40*0)).take 40).all gD=true:=by kernel_rfl
theorem dr1:((Tryz.prog.funcs.toList.drop (40*1)).take 40).all gD=true:=by kernel_rfl
theorem dr2:((Tryz.prog.funcs.toList.drop (40*2)).take 40).all gD=true:=by kernel_rfl
theorem dr3:((Tryz.prog.funcs.toList.drop (40*3)).take 40).all gD=true:=by kernel_rfl
theorem dr4:((Tryz.prog.funcs.toList.drop (40*4)).take 40).all gD=true:=by kernel_rfl
theorem dr5:((Tryz.prog.funcs.toList.drop (40*5)).take 40).all gD=true:=by kernel_rfl
theorem dr6:((Tryz.prog.funcs.toList.drop (40*6)).take 40).all gD=true:=by kernel_rfl
theorem dr7:((Tryz.prog.funcs.toList.drop (40*7)).take 40).all gD=true:=by kernel_rfl
theorem drE:(Tryz.prog.funcs.toList.drop (40*8)).all gD=true:=by kernel_rfl
theorem Q4f:Tryz.prog.funcs.all gD=true:=by
 rw[<-Array.all_toList];refine Qxo gD _ 40 8 ?_ drE;intro i hi
 match i,hi with
 |0,_=>exact dr0
 |1,_=>exact dr1
 |2,_=>exact dr2
 |3,_=>exact dr3
 |4,_=>exact dr4
 |5,_=>exact dr5
 |6,_=>exact dr6
 |7,_=>exact dr7
 |n+8,h=>omega
theorem Zb1:Tryz.prog.funcs.all gN=true:=by kernel_rfl
theorem Q4q:Tryz.prog.funcs.all gL=true:=by kernel_rfl
def inlD:List Nat:=[116,72,75,33,61,247,53,55,54,107,162,105,106,218,100000,220,59,26,10,11,12,22,27,25,62,23,166,221,28]
def mtL(f s:Nat):Bool:=[(116,32),(45,5),(45,7),(61,5),(61,7),(133,7),(220,22),(59,5),(59,7),(26,5),(26,7),(21,75),(29,18),(68,8)].contains (f,s)
def mtD:Nat->Nat->Bool:=fun f s=>if s<2000000 then mtL f s else !(f==83&&s==2000002||f==100001&&s==2000003||f==13&&s==2000001||f==30&&s==2000003||f==20&&s==2000003)
def Qg:Pol where
 pure:=fun f g=>(!inlD.contains g&& !(g==133&&f==218)&& !(g==21&&f==10)&& !(g==45&&f==112)&& !(g==20&&f==11)&& !(g==29&&f==12)&& !(g==69&&f==29))||(g==33&&(f==139||f==32)||g==72&&(f==57||f==30)||g==55&&f==100001||g==106&&f==100002)
 mt:=mtD
 keep:=fun f r=>match f,r with
  |74,3=>some ([1,3,19,20,21],[])
  |74,8=>some ([3,33,34,35],[7])
  |72,3=>some ([1,2,3,11,12,13],[])
  |72,9=>some ([1,2,27,28,29],[])
  |72,14=>some ([2,43,44,45],[9])
  |33,3=>some ([2,4,16],[6])
  |116,3=>some ([0,2,3,9,10,11],[])
  |116,9=>some ([2,6,21,22,23],[32])
  |117,8=>some ([7,8],[])
  |75,3=>some ([1,5,10,11,12],[7])
  |159,5=>some ([0,3,4],[])
  |170,2=>some ([2,4,5,6],[])
  |115,3=>some ([0,2,3,4],[])
  |183,1=>some ([0,1,2,4],[])
  |230,1=>some ([0,1,3],[])
  |67,4=>some ([0,1,6],[])
  |246,3=>some ([3,9,10],[])
  |19,4=>some ([1,34,35,36],[])
  |19,12=>some ([1,108,109,110],[6])
  |162,2=>some ([0,1,7,8],[])
  |55,2=>some ([0,1,7,8],[])
  |48,4=>some ([0,10,11,12],[4])
  |48,10=>some ([0,51,52,53],[4,6])
  |100003,3=>some ([0,2,4,8,9,10],[])
  |108,3=>some ([0,1,2,8,9,10],[])
  |103,4=>some ([0,8,9,10],[4])
  |98,3=>some ([3,6,7,8],[])
  |141,6=>some ([0,2,4,5,13,14],[])
  |178,2=>some ([0,1,7,8],[])
  |165,3=>some ([0,3,9,10,11],[])
  |165,11=>some ([6,25,26,27],[])
  |100000,3=>some ([3,6,7,8],[5])
  |5,5=>some ([1,3,4],[])
  |5,9=>some ([1,3,5],[])
  |5,13=>some ([1,3,6],[])
  |5,17=>some ([1,3,7],[])
  |18,5=>some ([1,3,4],[])
  |18,9=>some ([1,3,5],[])
  |100004,10=>some ([1,2,3,8,10,11,12,13],[])
  |100005,2=>some ([1,2,10],[])
  |100006,3=>some ([0,1,2,8,9,10],[])
  |163,7=>some ([8,9,28,29,30],[])
  |259,2=>some ([0,1,2,4],[])
  |100007,1=>some ([0,1,2,4],[])
  |100008,2=>some ([3,4,5,8,9],[25,26])
  |3,9=>some ([1,2,5,6,8,9],[])
  |10,6=>some ([1,2,5,6,25,26,27],[8])
  |11,7=>some ([1,2,3,51,52],[])
  |21,4=>some ([1,2,27,28],[])
  |21,9=>some ([1,2,46,47],[])
  |21,15=>some ([1,2,75,76,77],[])
  |21,18=>some ([1,2,6,75,76,77,81,82,83],[])
  |25,5=>some ([0,1,5,6],[7])
  |29,8=>some ([11,47,48,49],[15])
  |62,2=>some ([0,1,7,8],[])
  |63,7=>some ([2,23,24,25],[])
  |66,1=>some ([0,1,2,4],[])
  |114,6=>some ([2,5,30,31],[])
  |221,2=>some ([0,1],[])
  |_,_=>none
 thin:=fun _ g=>g==116
 lift:=fun f g=>g==61||g==133&&f==218||g==220||g==100000||g==59||g==26&& !(f==12)||g==45&&f==112
 look:=fun f g=>g==106||g==55&&f==20||g==29&&f==12||g==69&&f==29
 peek:=fun f g=>f==11&&g==20
 prim:=fun f=>if f=216 then some K8 else none
theorem Q9j(f s:Nat):Qg.mt f (Qob s)=if f=83 then(if s=2 then false else true) else if f=100001 then(if s=3 then false else true) else if f=13 then(if s=1 then false else true) else if f=30 then(if s=3 then false else true) else if f=20 then(if s=3 then false else true) else true:=by
 have e0:Qg.mt=mtD:=rfl;have hb:Qob s=s+2000000:=by unfold Qob;rfl
 have e (k:Nat):(s+2000000==k+2000000)=decide (s=k):=by rw[Bool.eq_iff_iff,beq_iff_eq,decide_eq_true_eq];omega
 have d (a b:Nat):(a==b)=decide (a=b):=by rw[Bool.eq_iff_iff,beq_iff_eq,decide_eq_true_eq]
 rw[e0,hb];unfold mtD;rw[if_neg (by omega),e 2,e 3,e 1,d f 83,d f 100001,d f 13,d f 30,d f 20];by_cases h1:f=83
 . subst h1;by_cases h:s=2<;>simp[h]
 by_cases h2:f=100001
 . subst h2;by_cases h:s=3<;>simp[h]
 by_cases h3:f=13
 . subst h3;by_cases h:s=1<;>simp[h]
 by_cases h4:f=30
 . subst h4;by_cases h:s=3<;>simp[h]
 by_cases h5:f=20
 . subst h5;by_cases h:s=3<;>simp[h]
 simp[h1,h2,h3,h4,h5]
theorem B2{f s:Nat}(h:s<2000000)(hf:mtL f s=false):Qg.mt f s=false:=by have e0:Qg.mt=mtD:=rfl;rw[e0];unfold mtD;rw[if_pos h,hf]
theorem xCnt:Bo Tryz.prog 216 Extern.BytealgCount.count:=⟨Tryz.f216,Tryz.func216,by kernel_rfl,by kernel_rfl,by kernel_rfl,by kernel_rfl⟩
theorem okD:Okay Tryz.prog Qg where
 mixed:=Tryz.checked.mixed
 draws:=fun f F c hF hc=>by have:=Zp0.1 Q4f F (Zq2 hF);unfold gD at this;rwa[hc] at this
 loops:=fun f F c hF hc=>by have:=Zp0.1 Q4q F (Zq2 hF);unfold gL at this;rw[hc] at this;simpa using this
 num:=fun f F hF hb=>by
  have:=Zp0.1 Zb1 F (Zq2 hF);unfold gN at this;cases hn:F.body with
  |none=>rw[hn] at hb;cases hb
  |some c=>rw[hn] at this;simpa using this
 prim:=fun f g hg B F H E fr dst args cargs v x S hlt hr h=>by
  by_cases hf:f=216
  . subst hf;have e:Qg.prim 216=some K8:=rfl;rw[e] at hg;cases hg;exact sound_count xCnt S hr h
  . have e:Qg.prim f=none:=if_neg hf;rw[e] at hg;cases hg
set_option maxRecDepth 100000
theorem sz3:sz Tryz.prog 3=some 1:=by kernel_rfl
theorem zc3:zeroCells Tryz.prog 3=some [.int .i64 0]:=by kernel_rfl
theorem rd3(cs:List V)(o:Nat):Q3 Tryz.prog 3 cs o=cs[o]?:=Qgm Tryz.underlying3 sz3 rfl cs o
theorem sz4:sz Tryz.prog 4=some 1:=by kernel_rfl
theorem sz5:sz Tryz.prog 5=some 1:=by kernel_rfl
theorem zc5:zeroCells Tryz.prog 5=some [.int .u8 0]:=by kernel_rfl
theorem rd5(cs:List V)(o:Nat):Q3 Tryz.prog 5 cs o=cs[o]?:=Qgm Tryz.underlying5 sz5 rfl cs o
theorem sz9:sz Tryz.prog 9=some 1:=by kernel_rfl
theorem sz22:sz Tryz.prog 22=some 1:=by kernel_rfl
theorem zc22:zeroCells Tryz.prog 22=some [.nS]:=by kernel_rfl
theorem rd22(cs:List V)(o:Nat):Q3 Tryz.prog 22 cs o=cs[o]?:=Qgm Tryz.underlying22 sz22 rfl cs o
theorem ln22(g:Get)(cs:List V)(len:Nat)(full:Bool):Ku Tryz.prog g 22 (.iS cs len full)=some (.int .i64 len):=Qh5 Tryz.underlying22 cs len full
theorem sz23:sz Tryz.prog 23=some 1:=by kernel_rfl
theorem zc23:zeroCells Tryz.prog 23=some [.nS]:=by kernel_rfl
theorem rd23(cs:List V)(o:Nat):Q3 Tryz.prog 23 cs o=cs[o]?:=Qgm Tryz.underlying23 sz23 rfl cs o
theorem sz25:sz Tryz.prog 25=some 2:=by kernel_rfl
theorem zc25:zeroCells Tryz.prog 25=some [.nS,.nS]:=by kernel_rfl
theorem rd25(cs:List V)(o:Nat):Q3 Tryz.prog 25 cs o=if o+2<=cs.length then some (.agg ((cs.drop o).take 2)) else none:=Qni Tryz.underlying25 sz25 rfl cs o
theorem fo25_0:Y3 Tryz.prog 25 0=some (0,22):=by kernel_rfl
theorem fo25_1:Y3 Tryz.prog 25 1=some (1,23):=by kernel_rfl
theorem bv25(parts:List (Nat×V)):By Tryz.prog 25 parts=(Xa (fun i=>([(0,1),(1,1)]:List (Nat×Nat))[i]?) [.nS,.nS] parts).map .agg:=Qt3 zc25 (by kernel_rfl) parts
theorem Qau:sz Tryz.prog 26=some 1:=by kernel_rfl
theorem Qmr:zeroCells Tryz.prog 26=some [.nS]:=by kernel_rfl
theorem rd26(cs:List V)(o:Nat):Q3 Tryz.prog 26 cs o=cs[o]?:=Qgm Tryz.underlying26 Qau rfl cs o
theorem ln26(g:Get)(cs:List V)(len:Nat)(full:Bool):Ku Tryz.prog g 26 (.iS cs len full)=some (.int .i64 len):=Qh5 Tryz.underlying26 cs len full
theorem lnn26(g:Get):Ku Tryz.prog g 26 .nS=some (.int .i64 0):=Ql9 Tryz.underlying26
theorem Quu:sz Tryz.prog 27=some 1:=by kernel_rfl
theorem rd27(cs:List V)(o:Nat):Q3 Tryz.prog 27 cs o=cs[o]?:=Qgm Tryz.underlying27 Quu rfl cs o
theorem sz29:sz Tryz.prog 29=some 5:=by kernel_rfl
theorem zc29:zeroCells Tryz.prog 29=some [.nS,.nS,.nS,.int .u32 0,.int .u32 0]:=by kernel_rfl
theorem rd29(cs:List V)(o:Nat):Q3 Tryz.prog 29 cs o=if o+5<=cs.length then some (.agg ((cs.drop o).take 5)) else none:=Qni Tryz.underlying29 sz29 rfl cs o
theorem fo29_0:Y3 Tryz.prog 29 0=some (0,25):=by kernel_rfl
theorem fo29_1:Y3 Tryz.prog 29 1=some (2,26):=by kernel_rfl
theorem fo29_2:Y3 Tryz.prog 29 2=some (3,27):=by kernel_rfl
theorem ff29_2:Qx8 Tryz.prog 29 2=some (3,27):=by kernel_rfl
theorem fo29_3:Y3 Tryz.prog 29 3=some (4,27):=by kernel_rfl
theorem bv29(parts:List (Nat×V)):By Tryz.prog 29 parts=(Xa (fun i=>([(0,2),(2,1),(3,1),(4,1)]:List (Nat×Nat))[i]?) [.nS,.nS,.nS,.int .u32 0,.int .u32 0] parts).map .agg:=Qt3 zc29 (by kernel_rfl) parts
theorem sz31:sz Tryz.prog 31=some 5:=by kernel_rfl
theorem zc31:zeroCells Tryz.prog 31=some [.int .i64 0,.int .u32 0,.int .u32 0,.int .u32 0,.int .u32 0]:=by kernel_rfl
theorem rd31(cs:List V)(o:Nat):Q3 Tryz.prog 31 cs o=if o+5<=cs.length then some (.agg ((cs.drop o).take 5)) else none:=Qni Tryz.underlying31 sz31 rfl cs o
theorem fo31_0:Y3 Tryz.prog 31 0=some (0,3):=by kernel_rfl
theorem fo31_1:Y3 Tryz.prog 31 1=some (1,27):=by kernel_rfl
theorem ff31_1:Qx8 Tryz.prog 31 1=some (1,27):=by kernel_rfl
theorem fo31_2:Y3 Tryz.prog 31 2=some (2,27):=by kernel_rfl
theorem fo31_3:Y3 Tryz.prog 31 3=some (3,27):=by kernel_rfl
theorem fo31_4:Y3 Tryz.prog 31 4=some (4,27):=by kernel_rfl
theorem ff31_4:Qx8 Tryz.prog 31 4=some (4,27):=by kernel_rfl
theorem bv31(parts:List (Nat×V)):By Tryz.prog 31 parts=(Xa (fun i=>([(0,1),(1,1),(2,1),(3,1),(4,1)]:List (Nat×Nat))[i]?) [.int .i64 0,.int .u32 0,.int .u32 0,.int .u32 0,.int .u32 0] parts).map .agg:=Qt3 zc31 (by kernel_rfl) parts
theorem sz32:sz Tryz.prog 32=some 1:=by kernel_rfl
theorem rd32(cs:List V)(o:Nat):Q3 Tryz.prog 32 cs o=cs[o]?:=Qgm Tryz.underlying32 sz32 rfl cs o
theorem ln32(g:Get)(cs:List V)(len:Nat)(full:Bool):Ku Tryz.prog g 32 (.iS cs len full)=some (.int .i64 len):=Qh5 Tryz.underlying32 cs len full
theorem sz33:sz Tryz.prog 33=some 1:=by kernel_rfl
theorem Qsj(cs:List V)(o:Nat):Q3 Tryz.prog 33 cs o=cs[o]?:=Qgm Tryz.underlying33 sz33 rfl cs o
theorem lnn33(g:Get):Ku Tryz.prog g 33 .nS=some (.int .i64 0):=Ql9 Tryz.underlying33
theorem sz34:sz Tryz.prog 34=some 1:=by kernel_rfl
theorem Qzp(cs:List V)(o:Nat):Q3 Tryz.prog 34 cs o=cs[o]?:=Qgm Tryz.underlying34 sz34 rfl cs o
theorem sz36:sz Tryz.prog 36=some 19:=by kernel_rfl
theorem zc36:zeroCells Tryz.prog 36=some [.nS,.nS,.nS,.int .u32 0,.int .u32 0,.int .u32 0,.int .i64 0,.int .u32 0,.int .u32 0,.int .u32 0,.int .u32 0,.nS,.nS,.nS,.nS,.nS,.int .i64 0,.int .i64 0,.int .u32 0]:=by kernel_rfl
theorem rd36(cs:List V)(o:Nat):Q3 Tryz.prog 36 cs o=if o+19<=cs.length then some (.agg ((cs.drop o).take 19)) else none:=Qni Tryz.underlying36 sz36 rfl cs o
theorem fo36_0:Y3 Tryz.prog 36 0=some (0,29):=by kernel_rfl
theorem fo36_1:Y3 Tryz.prog 36 1=some (5,27):=by kernel_rfl
theorem fo36_2:Y3 Tryz.prog 36 2=some (6,31):=by kernel_rfl
theorem fo36_3:Y3 Tryz.prog 36 3=some (11,32):=by kernel_rfl
theorem ff36_3:Qx8 Tryz.prog 36 3=some (11,32):=by kernel_rfl
theorem fo36_4:Y3 Tryz.prog 36 4=some (12,33):=by kernel_rfl
theorem ff36_4:Qx8 Tryz.prog 36 4=some (12,33):=by kernel_rfl
theorem fo36_5:Y3 Tryz.prog 36 5=some (13,22):=by kernel_rfl
theorem ff36_5:Qx8 Tryz.prog 36 5=some (13,22):=by kernel_rfl
theorem fo36_6:Y3 Tryz.prog 36 6=some (14,22):=by kernel_rfl
theorem fo36_7:Y3 Tryz.prog 36 7=some (15,34):=by kernel_rfl
theorem fo36_8:Y3 Tryz.prog 36 8=some (16,3):=by kernel_rfl
theorem fo36_9:Y3 Tryz.prog 36 9=some (17,3):=by kernel_rfl
theorem Zeq:Y3 Tryz.prog 36 10=some (18,27):=by kernel_rfl
theorem bv36(parts:List (Nat×V)):By Tryz.prog 36 parts=(Xa (fun i=>([(0,5),(5,1),(6,5),(11,1),(12,1),(13,1),(14,1),(15,1),(16,1),(17,1),(18,1)]:List (Nat×Nat))[i]?) [.nS,.nS,.nS,.int .u32 0,.int .u32 0,.int .u32 0,.int .i64 0,.int .u32 0,.int .u32 0,.int .u32 0,.int .u32 0,.nS,.nS,.nS,.nS,.nS,.int .i64 0,.int .i64 0,.int .u32 0] parts).map .agg:=Qt3 zc36 (by kernel_rfl) parts
theorem sz39:sz Tryz.prog 39=some 1:=by kernel_rfl
theorem rd39(cs:List V)(o:Nat):Q3 Tryz.prog 39 cs o=cs[o]?:=Qgm Tryz.underlying39 sz39 rfl cs o
theorem Qdq:sz Tryz.prog 43=some 12:=by kernel_rfl
theorem zc43:zeroCells Tryz.prog 43=some [.int .i64 0,.int .i64 0,.int .i64 0,.int .u8 0,.int .i64 0,.int .i64 0,.nS,.int .i64 0,.int .u32 0,.int .u32 0,.int .u32 0,.int .u32 0]:=by kernel_rfl
theorem Quz(cs:List V)(o:Nat):Q3 Tryz.prog 43 cs o=if o+12<=cs.length then some (.agg ((cs.drop o).take 12)) else none:=Qni Tryz.underlying43 Qdq rfl cs o
theorem fo43_0:Y3 Tryz.prog 43 0=some (0,3):=by kernel_rfl
theorem fo43_1:Y3 Tryz.prog 43 1=some (1,3):=by kernel_rfl
theorem fo43_2:Y3 Tryz.prog 43 2=some (2,3):=by kernel_rfl
theorem fo43_3:Y3 Tryz.prog 43 3=some (3,5):=by kernel_rfl
theorem fo43_4:Y3 Tryz.prog 43 4=some (4,3):=by kernel_rfl
theorem fo43_5:Y3 Tryz.prog 43 5=some (5,3):=by kernel_rfl
theorem fo43_6:Y3 Tryz.prog 43 6=some (6,26):=by kernel_rfl
theorem fo43_7:Y3 Tryz.prog 43 7=some (7,31):=by kernel_rfl
theorem sz44:sz Tryz.prog 44=some 1:=by kernel_rfl
theorem sz50:sz Tryz.prog 50=some 1:=by kernel_rfl
theorem rd50(cs:List V)(o:Nat):Q3 Tryz.prog 50 cs o=cs[o]?:=Qgm Tryz.underlying50 sz50 rfl cs o
theorem Qin:sz Tryz.prog 52=some 13:=by kernel_rfl
theorem zc52:zeroCells Tryz.prog 52=some [.int .i64 0,.int .u8 0,.int .i64 0,.int .i64 0,.int .u32 0,.int .u32 0,.int .i64 0,.int .i64 0,.int .u32 0,.int .u32 0,.int .u32 0,.int .u32 0,.nS]:=by kernel_rfl
theorem rd52(cs:List V)(o:Nat):Q3 Tryz.prog 52 cs o=if o+13<=cs.length then some (.agg ((cs.drop o).take 13)) else none:=Qni Tryz.underlying52 Qin rfl cs o
theorem fo52_0:Y3 Tryz.prog 52 0=some (0,3):=by kernel_rfl
theorem fo52_1:Y3 Tryz.prog 52 1=some (1,5):=by kernel_rfl
theorem fo52_2:Y3 Tryz.prog 52 2=some (2,3):=by kernel_rfl
theorem fo52_3:Y3 Tryz.prog 52 3=some (3,3):=by kernel_rfl
theorem fo52_4:Y3 Tryz.prog 52 4=some (4,27):=by kernel_rfl
theorem fo52_5:Y3 Tryz.prog 52 5=some (5,27):=by kernel_rfl
theorem fo52_6:Y3 Tryz.prog 52 6=some (6,3):=by kernel_rfl
theorem fo52_7:Y3 Tryz.prog 52 7=some (7,31):=by kernel_rfl
theorem fo52_8:Y3 Tryz.prog 52 8=some (12,50):=by kernel_rfl
theorem sz53:sz Tryz.prog 53=some 1:=by kernel_rfl
theorem rd53(cs:List V)(o:Nat):Q3 Tryz.prog 53 cs o=cs[o]?:=Qgm Tryz.underlying53 sz53 rfl cs o
theorem sz56:sz Tryz.prog 56=some 22:=by kernel_rfl
theorem zc56:zeroCells Tryz.prog 56=some [.nS,.nS,.nS,.int .u32 0,.int .u32 0,.int .u32 0,.int .i64 0,.int .u32 0,.int .u32 0,.int .u32 0,.int .u32 0,.nS,.nS,.nS,.nS,.nS,.int .i64 0,.int .i64 0,.int .u32 0,.int .i64 0,.int .i64 0,.int .i64 0]:=by kernel_rfl
theorem fo56_0:Y3 Tryz.prog 56 0=some (0,36):=by kernel_rfl
theorem fo56_1:Y3 Tryz.prog 56 1=some (19,3):=by kernel_rfl
theorem fo56_2:Y3 Tryz.prog 56 2=some (20,3):=by kernel_rfl
theorem fo56_3:Y3 Tryz.prog 56 3=some (21,39):=by kernel_rfl
theorem bv56(parts:List (Nat×V)):By Tryz.prog 56 parts=(Xa (fun i=>([(0,19),(19,1),(20,1),(21,1)]:List (Nat×Nat))[i]?) [.nS,.nS,.nS,.int .u32 0,.int .u32 0,.int .u32 0,.int .i64 0,.int .u32 0,.int .u32 0,.int .u32 0,.int .u32 0,.nS,.nS,.nS,.nS,.nS,.int .i64 0,.int .i64 0,.int .u32 0,.int .i64 0,.int .i64 0,.int .i64 0] parts).map .agg:=Qt3 zc56 (by kernel_rfl) parts
theorem sz63:sz Tryz.prog 63=some 1:=by kernel_rfl
theorem sz66:sz Tryz.prog 66=some 1:=by kernel_rfl
theorem sz80:sz Tryz.prog 80=some 1:=by kernel_rfl
theorem sz81:sz Tryz.prog 81=some 1:=by kernel_rfl
theorem Qcm:sz Tryz.prog 101=some 2:=by kernel_rfl
theorem Qnm:zeroCells Tryz.prog 101=some [.int .i64 0,.nS]:=by kernel_rfl
theorem Q32(cs:List V)(o:Nat):Q3 Tryz.prog 101 cs o=if o+2<=cs.length then some (.agg ((cs.drop o).take 2)) else none:=Qni Tryz.underlying101 Qcm rfl cs o
theorem Zdy:Y3 Tryz.prog 101 0=some (0,3):=by kernel_rfl
theorem Zc6:Y3 Tryz.prog 101 1=some (1,26):=by kernel_rfl
theorem bv101(parts:List (Nat×V)):By Tryz.prog 101 parts=(Xa (fun i=>([(0,1),(1,1)]:List (Nat×Nat))[i]?) [.int .i64 0,.nS] parts).map .agg:=Qt3 Qnm (by kernel_rfl) parts
theorem sz108:sz Tryz.prog 108=some 1:=by kernel_rfl
theorem sz115:sz Tryz.prog 115=some 1:=by kernel_rfl
theorem sz129:sz Tryz.prog 129=some 1:=by kernel_rfl
theorem sz165:sz Tryz.prog 165=some 1:=by kernel_rfl
theorem sz168:sz Tryz.prog 168=some 1:=by kernel_rfl
theorem sz176:sz Tryz.prog 176=some 4:=by kernel_rfl
theorem zc176:zeroCells Tryz.prog 176=some [.int .u32 0,.int .u32 0,.int .u32 0,.int .u32 0]:=by kernel_rfl
theorem rd176(cs:List V)(o:Nat):Q3 Tryz.prog 176 cs o=if o+4<=cs.length then some (.agg ((cs.drop o).take 4)) else none:=Qni Tryz.underlying176 sz176 rfl cs o
theorem sz185:sz Tryz.prog 185=some 1:=by kernel_rfl
theorem sz241:sz Tryz.prog 241=some 5:=by kernel_rfl
theorem zc241:zeroCells Tryz.prog 241=some [.int .i64 0,.int .i64 0,.int .i64 0,.int .i64 0,.int .i64 0]:=by kernel_rfl
theorem sz249:sz Tryz.prog 249=some 4:=by kernel_rfl
theorem zc249:zeroCells Tryz.prog 249=some [.int .u8 0,.int .i64 0,.int .i64 0,.nS]:=by kernel_rfl
theorem sz274:sz Tryz.prog 274=some 1:=by kernel_rfl
theorem sz299:sz Tryz.prog 299=some 16:=by kernel_rfl
theorem sz327:sz Tryz.prog 327=some 12:=by kernel_rfl
abbrev ta:=ai @Q9j<|ai @sz3<|ai @zc3<|ai @rd3<|ai @sz5<|ai @zc5<|ai @rd5<|ai @sz22<|ai @rd22<|ai @ln22<|ai @sz23<|ai @zc23<|ai @rd23<|ai @sz25<|ai @zc25<|ai @rd25<|ai @fo25_0<|ai @fo25_1<|ai @bv25<|ai @Qau<|ai @Qmr<|ai @rd26<|ai @ln26<|ai @lnn26<|ai @Quu<|ai @rd27<|ai @sz29<|ai @zc29<|ai @rd29<|ai @fo29_0<|ai @fo29_1<|ai @fo29_2<|ai @ff29_2<|ai @fo29_3<|ai @bv29<|ai @sz31<|ai @zc31<|ai @rd31<|ai @fo31_0<|ai @fo31_1<|ai @ff31_1<|ai @fo31_2<|ai @fo31_3<|ai @fo31_4<|ai @ff31_4<|ai @bv31<|ai @sz32<|ai @rd32<|ai @ln32<|ai @sz33<|ai @Qsj<|ai @lnn33<|ai @sz34<|ai @Qzp<|ai @sz36<|ai @zc36<|ai @rd36<|ai @fo36_0<|ai @fo36_1<|ai @fo36_2<|ai @fo36_3<|ai @ff36_3<|ai @fo36_4<|ai @ff36_4<|ai @fo36_5<|ai @ff36_5<|ai @fo36_6<|ai @fo36_7<|ai @fo36_8<|ai @fo36_9<|ai @Zeq<|ai @bv36<|ai @sz39<|ai @rd39<|ai @Qdq<|ai @zc43<|ai @Quz<|ai @fo43_0<|ai @fo43_1<|ai @fo43_2<|ai @fo43_3<|ai @fo43_4<|ai @fo43_5<|ai @fo43_6<|ai @fo43_7<|ai @sz50<|ai @rd50<|ai @Qin<|ai @zc52<|ai @rd52<|ai @fo52_0<|ai @fo52_1<|ai @fo52_2<|ai @fo52_3<|ai @fo52_4<|ai @fo52_5<|ai @fo52_6<|ai @fo52_7<|ai @fo52_8<|ai @rd53<|ai @fo56_0<|ai @fo56_1<|ai @fo56_2<|ai @fo56_3<|ai @bv56<|ai @Qcm<|ai @Qnm<|ai @Q32<|ai @Zdy<|ai @Zc6<|ai @bv101<|ai @sz176<|ai @zc176<|ai @rd176<|ai @sz241<| @zc241
abbrev wX:=ai wA<|ai wH<|ai wB ta
noncomputable abbrev Tp:=Tryz.prog
abbrev Zu0:=@Tryz.underlying26
abbrev Zu1:=@Tryz.underlying22
abbrev Zu2:=@Tryz.underlying34
abbrev Zu3:=@Tryz.underlying3
abbrev Zu4:=@Tryz.underlying32
abbrev Zu5:=@Tryz.underlying23
abbrev Zu6:=@Tryz.underlying33
abbrev Zu7:=@Tryz.underlying27
abbrev Zu8:=@Tryz.underlying50
abbrev Zu9:=@Tryz.underlying241
abbrev Zu10:=@Tryz.ntmps3
abbrev Zu11:=@Tryz.underlying5
abbrev Zu12:=@Tryz.ntmps45
abbrev Zu13:=@Tryz.underlying44
abbrev Zu14:=@Tryz.underlying176
def st3_9(v1 v2 v5 v6 v8 v9:V):List V:=[.bad,v1,v2,.bad,.bad,v5,v6,.bad,v8,v9,.bad,.bad,.bad,.bad,.bad,.bad,.bad,.bad,.bad,.bad,.bad,.bad,.bad,.bad,.bad,.bad,.bad,.bad,.bad,.bad,.bad,.bad,.bad,.bad,.bad,.bad,.bad,.bad,.bad,.bad,.bad,.bad,.bad,.bad,.bad,.bad,.bad,.bad,.bad,.bad,.bad,.bad,.bad,.bad,.bad,.bad,.bad,.bad,.bad,.bad,.bad,.bad,.bad,.bad,.bad,.bad,.bad,.bad,.bad,.bad,.bad,.bad,.bad,.bad,.bad,.bad,.bad,.bad,.bad,.bad,.bad,.bad,.bad,.bad,.bad,.bad,.bad,.bad,.bad,.bad,.bad,.bad,.bad,.bad,.bad,.bad,.bad,.bad,.bad,.bad,.bad,.bad,.bad,.bad,.bad,.bad,.bad,.bad,.bad,.bad,.bad,.bad,.bad]
def st5_5(v1 v3 v4:V):List V:=[.bad,v1,.bad,v3,v4,.bad,.bad,.bad,.bad,.bad,.bad,.bad,.bad,.bad,.bad,.bad,.bad,.bad,.bad,.bad,.bad,.bad,.bad,.bad,.bad,.bad,.bad,.bad,.bad,.bad,.bad,.bad,.bad,.bad,.bad,.bad,.bad,.bad,.bad,.bad,.bad,.bad,.bad,.bad,.bad,.bad,.bad,.bad,.bad,.bad,.bad,.bad,.bad,.bad,.bad,.bad,.bad,.bad,.bad,.bad,.bad,.bad,.bad,.bad,.bad,.bad,.bad,.bad,.bad,.bad,.bad,.bad,.bad,.bad,.bad,.bad,.bad,.bad,.bad,.bad,.bad,.bad,.bad,.bad,.bad,.bad,.bad,.bad,.bad,.bad,.bad,.bad,.bad,.bad,.bad,.bad,.bad,.bad,.bad,.bad,.bad,.bad,.bad,.bad,.bad]
def st5_9(v1 v3 v5:V):List V:=[.bad,v1,.bad,v3,.bad,v5,.bad,.bad,.bad,.bad,.bad,.bad,.bad,.bad,.bad,.bad,.bad,.bad,.bad,.bad,.bad,.bad,.bad,.bad,.bad,.bad,.bad,.bad,.bad,.bad,.bad,.bad,.bad,.bad,.bad,.bad,.bad,.bad,.bad,.bad,.bad,.bad,.bad,.bad,.bad,.bad,.bad,.bad,.bad,.bad,.bad,.bad,.bad,.bad,.bad,.bad,.bad,.bad,.bad,.bad,.bad,.bad,.bad,.bad,.bad,.bad,.bad,.bad,.bad,.bad,.bad,.bad,.bad,.bad,.bad,.bad,.bad,.bad,.bad,.bad,.bad,.bad,.bad,.bad,.bad,.bad,.bad,.bad,.bad,.bad,.bad,.bad,.bad,.bad,.bad,.bad,.bad,.bad,.bad,.bad,.bad,.bad,.bad,.bad,.bad]
def Q98(v1 v3 v6:V):List V:=[.bad,v1,.bad,v3,.bad,.bad,v6,.bad,.bad,.bad,.bad,.bad,.bad,.bad,.bad,.bad,.bad,.bad,.bad,.bad,.bad,.bad,.bad,.bad,.bad,.bad,.bad,.bad,.bad,.bad,.bad,.bad,.bad,.bad,.bad,.bad,.bad,.bad,.bad,.bad,.bad,.bad,.bad,.bad,.bad,.bad,.bad,.bad,.bad,.bad,.bad,.bad,.bad,.bad,.bad,.bad,.bad,.bad,.bad,.bad,.bad,.bad,.bad,.bad,.bad,.bad,.bad,.bad,.bad,.bad,.bad,.bad,.bad,.bad,.bad,.bad,.bad,.bad,.bad,.bad,.bad,.bad,.bad,.bad,.bad,.bad,.bad,.bad,.bad,.bad,.bad,.bad,.bad,.bad,.bad,.bad,.bad,.bad,.bad,.bad,.bad,.bad,.bad,.bad,.bad]
def Q8d(v1 v3 v7:V):List V:=[.bad,v1,.bad,v3,.bad,.bad,.bad,v7,.bad,.bad,.bad,.bad,.bad,.bad,.bad,.bad,.bad,.bad,.bad,.bad,.bad,.bad,.bad,.bad,.bad,.bad,.bad,.bad,.bad,.bad,.bad,.bad,.bad,.bad,.bad,.bad,.bad,.bad,.bad,.bad,.bad,.bad,.bad,.bad,.bad,.bad,.bad,.bad,.bad,.bad,.bad,.bad,.bad,.bad,.bad,.bad,.bad,.bad,.bad,.bad,.bad,.bad,.bad,.bad,.bad,.bad,.bad,.bad,.bad,.bad,.bad,.bad,.bad,.bad,.bad,.bad,.bad,.bad,.bad,.bad,.bad,.bad,.bad,.bad,.bad,.bad,.bad,.bad,.bad,.bad,.bad,.bad,.bad,.bad,.bad,.bad,.bad,.bad,.bad,.bad,.bad,.bad,.bad,.bad,.bad]
def Q1u(v1 v2 v5 v6 v25 v26 v27:V):List V:=[.bad,v1,v2,.bad,.bad,v5,v6,.bad,.bad,.bad,.bad,.bad,.bad,.bad,.bad,.bad,.bad,.bad,.bad,.bad,.bad,.bad,.bad,.bad,.bad,v25,v26,v27,.bad,.bad,.bad,.bad,.bad,.bad,.bad,.bad,.bad,.bad,.bad,.bad,.bad,.bad,.bad,.bad,.bad,.bad,.bad,.bad,.bad,.bad,.bad,.bad,.bad,.bad,.bad,.bad,.bad,.bad,.bad,.bad,.bad,.bad,.bad,.bad,.bad,.bad,.bad,.bad,.bad,.bad,.bad,.bad,.bad,.bad,.bad,.bad,.bad,.bad,.bad,.bad,.bad,.bad,.bad,.bad,.bad,.bad,.bad,.bad,.bad,.bad,.bad,.bad,.bad,.bad,.bad,.bad,.bad,.bad,.bad,.bad,.bad,.bad,.bad]
def Ql8(v1 v2 v3 v51 v52:V):List V:=[.bad,v1,v2,v3,.bad,.bad,.bad,.bad,.bad,.bad,.bad,.bad,.bad,.bad,.bad,.bad,.bad,.bad,.bad,.bad,.bad,.bad,.bad,.bad,.bad,.bad,.bad,.bad,.bad,.bad,.bad,.bad,.bad,.bad,.bad,.bad,.bad,.bad,.bad,.bad,.bad,.bad,.bad,.bad,.bad,.bad,.bad,.bad,.bad,.bad,.bad,v51,v52,.bad,.bad,.bad,.bad,.bad,.bad,.bad,.bad,.bad,.bad,.bad,.bad,.bad,.bad,.bad,.bad,.bad,.bad,.bad,.bad,.bad,.bad,.bad,.bad,.bad,.bad,.bad,.bad,.bad,.bad,.bad,.bad,.bad,.bad,.bad,.bad,.bad,.bad,.bad,.bad,.bad,.bad,.bad,.bad,.bad,.bad,.bad,.bad,.bad,.bad,.bad,.bad,.bad]
def Q8b(v1 v3 v4:V):List V:=[.bad,v1,.bad,v3,v4,.bad,.bad,.bad,.bad,.bad,.bad,.bad,.bad,.bad,.bad,.bad,.bad,.bad,.bad,.bad,.bad,.bad,.bad,.bad,.bad,.bad,.bad,.bad,.bad,.bad,.bad,.bad,.bad,.bad,.bad,.bad,.bad,.bad,.bad,.bad,.bad,.bad,.bad,.bad,.bad,.bad,.bad,.bad,.bad,.bad,.bad,.bad,.bad,.bad,.bad,.bad,.bad,.bad,.bad,.bad,.bad,.bad,.bad,.bad,.bad,.bad,.bad,.bad,.bad]
def Qvr(v1 v3 v5:V):List V:=[.bad,v1,.bad,v3,.bad,v5,.bad,.bad,.bad,.bad,.bad,.bad,.bad,.bad,.bad,.bad,.bad,.bad,.bad,.bad,.bad,.bad,.bad,.bad,.bad,.bad,.bad,.bad,.bad,.bad,.bad,.bad,.bad,.bad,.bad,.bad,.bad,.bad,.bad,.bad,.bad,.bad,.bad,.bad,.bad,.bad,.bad,.bad,.bad,.bad,.bad,.bad,.bad,.bad,.bad,.bad,.bad,.bad,.bad,.bad,.bad,.bad,.bad,.bad,.bad,.bad,.bad,.bad,.bad]
def Zbg(v1 v34 v35 v36:V):List V:=[.bad,v1,.bad,.bad,.bad,.bad,.bad,.bad,.bad,.bad,.bad,.bad,.bad,.bad,.bad,.bad,.bad,.bad,.bad,.bad,.bad,.bad,.bad,.bad,.bad,.bad,.bad,.bad,.bad,.bad,.bad,.bad,.bad,.bad,v34,v35,v36,.bad,.bad,.bad,.bad,.bad,.bad,.bad,.bad,.bad,.bad,.bad,.bad,.bad,.bad,.bad,.bad,.bad,.bad,.bad,.bad,.bad,.bad,.bad,.bad,.bad,.bad,.bad,.bad,.bad,.bad,.bad,.bad,.bad,.bad,.bad,.bad,.bad,.bad,.bad,.bad,.bad,.bad,.bad,.bad,.bad,.bad,.bad,.bad,.bad,.bad,.bad,.bad,.bad,.bad,.bad,.bad,.bad,.bad,.bad,.bad,.bad,.bad,.bad,.bad,.bad,.bad,.bad,.bad,.bad,.bad,.bad,.bad,.bad,.bad,.bad,.bad,.bad,.bad,.bad,.bad,.bad,.bad,.bad,.bad,.bad,.bad,.bad,.bad,.bad,.bad,.bad,.bad,.bad,.bad,.bad,.bad,.bad,.bad,.bad,.bad,.bad,.bad,.bad,.bad,.bad,.bad,.bad,.bad,.bad,.bad,.bad,.bad,.bad,.bad,.bad,.bad,.bad]
def Quo(v1 v108 v109 v110:V):List V:=[.bad,v1,.bad,.bad,.bad,.bad,.bad,.bad,.bad,.bad,.bad,.bad,.bad,.bad,.bad,.bad,.bad,.bad,.bad,.bad,.bad,.bad,.bad,.bad,.bad,.bad,.bad,.bad,.bad,.bad,.bad,.bad,.bad,.bad,.bad,.bad,.bad,.bad,.bad,.bad,.bad,.bad,.bad,.bad,.bad,.bad,.bad,.bad,.bad,.bad,.bad,.bad,.bad,.bad,.bad,.bad,.bad,.bad,.bad,.bad,.bad,.bad,.bad,.bad,.bad,.bad,.bad,.bad,.bad,.bad,.bad,.bad,.bad,.bad,.bad,.bad,.bad,.bad,.bad,.bad,.bad,.bad,.bad,.bad,.bad,.bad,.bad,.bad,.bad,.bad,.bad,.bad,.bad,.bad,.bad,.bad,.bad,.bad,.bad,.bad,.bad,.bad,.bad,.bad,.bad,.bad,.bad,.bad,v108,v109,v110,.bad,.bad,.bad,.bad,.bad,.bad,.bad,.bad,.bad,.bad,.bad,.bad,.bad,.bad,.bad,.bad,.bad,.bad,.bad,.bad,.bad,.bad,.bad,.bad,.bad,.bad,.bad,.bad,.bad,.bad,.bad,.bad,.bad,.bad,.bad,.bad,.bad,.bad,.bad,.bad,.bad,.bad,.bad]
def Q81(v1 v2 v27 v28:V):List V:=[.bad,v1,v2,.bad,.bad,.bad,.bad,.bad,.bad,.bad,.bad,.bad,.bad,.bad,.bad,.bad,.bad,.bad,.bad,.bad,.bad,.bad,.bad,.bad,.bad,.bad,.bad,v27,v28,.bad,.bad,.bad,.bad,.bad,.bad,.bad,.bad,.bad,.bad,.bad,.bad,.bad,.bad,.bad,.bad,.bad,.bad,.bad,.bad,.bad,.bad,.bad,.bad,.bad,.bad,.bad,.bad,.bad,.bad,.bad,.bad,.bad,.bad,.bad,.bad,.bad,.bad,.bad,.bad,.bad,.bad,.bad,.bad,.bad,.bad,.bad,.bad,.bad,.bad,.bad,.bad,.bad,.bad,.bad,.bad,.bad,.bad,.bad,.bad,.bad,.bad,.bad,.bad,.bad,.bad,.bad]
def Zat(v1 v2 v46 v47:V):List V:=[.bad,v1,v2,.bad,.bad,.bad,.bad,.bad,.bad,.bad,.bad,.bad,.bad,.bad,.bad,.bad,.bad,.bad,.bad,.bad,.bad,.bad,.bad,.bad,.bad,.bad,.bad,.bad,.bad,.bad,.bad,.bad,.bad,.bad,.bad,.bad,.bad,.bad,.bad,.bad,.bad,.bad,.bad,.bad,.bad,.bad,v46,v47,.bad,.bad,.bad,.bad,.bad,.bad,.bad,.bad,.bad,.bad,.bad,.bad,.bad,.bad,.bad,.bad,.bad,.bad,.bad,.bad,.bad,.bad,.bad,.bad,.bad,.bad,.bad,.bad,.bad,.bad,.bad,.bad,.bad,.bad,.bad,.bad,.bad,.bad,.bad,.bad,.bad,.bad,.bad,.bad,.bad,.bad,.bad,.bad]
def Q3i(v1 v2 v75 v76 v77:V):List V:=[.bad,v1,v2,.bad,.bad,.bad,.bad,.bad,.bad,.bad,.bad,.bad,.bad,.bad,.bad,.bad,.bad,.bad,.bad,.bad,.bad,.bad,.bad,.bad,.bad,.bad,.bad,.bad,.bad,.bad,.bad,.bad,.bad,.bad,.bad,.bad,.bad,.bad,.bad,.bad,.bad,.bad,.bad,.bad,.bad,.bad,.bad,.bad,.bad,.bad,.bad,.bad,.bad,.bad,.bad,.bad,.bad,.bad,.bad,.bad,.bad,.bad,.bad,.bad,.bad,.bad,.bad,.bad,.bad,.bad,.bad,.bad,.bad,.bad,.bad,v75,v76,v77,.bad,.bad,.bad,.bad,.bad,.bad,.bad,.bad,.bad,.bad,.bad,.bad,.bad,.bad,.bad,.bad,.bad,.bad]
def Qof(v1 v2 v6 v75 v76 v77 v81 v82 v83:V):List V:=[.bad,v1,v2,.bad,.bad,.bad,v6,.bad,.bad,.bad,.bad,.bad,.bad,.bad,.bad,.bad,.bad,.bad,.bad,.bad,.bad,.bad,.bad,.bad,.bad,.bad,.bad,.bad,.bad,.bad,.bad,.bad,.bad,.bad,.bad,.bad,.bad,.bad,.bad,.bad,.bad,.bad,.bad,.bad,.bad,.bad,.bad,.bad,.bad,.bad,.bad,.bad,.bad,.bad,.bad,.bad,.bad,.bad,.bad,.bad,.bad,.bad,.bad,.bad,.bad,.bad,.bad,.bad,.bad,.bad,.bad,.bad,.bad,.bad,.bad,v75,v76,v77,.bad,.bad,.bad,v81,v82,v83,.bad,.bad,.bad,.bad,.bad,.bad,.bad,.bad,.bad,.bad,.bad,.bad]
def Zav(v0 v1 v5 v6:V):List V:=[v0,v1,.bad,.bad,.bad,v5,v6,.bad,.bad,.bad,.bad,.bad,.bad,.bad,.bad,.bad,.bad,.bad,.bad,.bad,.bad,.bad,.bad,.bad,.bad,.bad,.bad,.bad,.bad,.bad,.bad,.bad,.bad,.bad,.bad,.bad,.bad,.bad,.bad,.bad,.bad,.bad]
def Q1g(v11 v47 v48 v49:V):List V:=[.bad,.bad,.bad,.bad,.bad,.bad,.bad,.bad,.bad,.bad,.bad,v11,.bad,.bad,.bad,.bad,.bad,.bad,.bad,.bad,.bad,.bad,.bad,.bad,.bad,.bad,.bad,.bad,.bad,.bad,.bad,.bad,.bad,.bad,.bad,.bad,.bad,.bad,.bad,.bad,.bad,.bad,.bad,.bad,.bad,.bad,.bad,v47,v48,v49,.bad,.bad,.bad,.bad,.bad,.bad,.bad,.bad,.bad,.bad,.bad,.bad,.bad,.bad,.bad,.bad,.bad,.bad,.bad]
def Qmd(v2 v4 v16:V):List V:=[.bad,.bad,v2,.bad,v4,.bad,.bad,.bad,.bad,.bad,.bad,.bad,.bad,.bad,.bad,.bad,v16,.bad,.bad,.bad,.bad,.bad,.bad,.bad,.bad,.bad,.bad,.bad,.bad,.bad,.bad]
def Q18(v0 v10 v11 v12:V):List V:=[v0,.bad,.bad,.bad,.bad,.bad,.bad,.bad,.bad,.bad,v10,v11,v12,.bad,.bad,.bad,.bad,.bad,.bad,.bad,.bad,.bad,.bad,.bad,.bad,.bad,.bad,.bad,.bad,.bad,.bad,.bad,.bad,.bad,.bad,.bad,.bad,.bad,.bad,.bad,.bad,.bad,.bad,.bad,.bad,.bad,.bad,.bad,.bad,.bad,.bad,.bad,.bad,.bad,.bad,.bad,.bad,.bad,.bad,.bad,.bad,.bad,.bad,.bad,.bad,.bad,.bad,.bad,.bad,.bad,.bad,.bad,.bad,.bad,.bad,.bad,.bad,.bad,.bad,.bad,.bad,.bad,.bad,.bad,.bad,.bad,.bad,.bad,.bad]
def Qvu(v0 v51 v52 v53:V):List V:=[v0,.bad,.bad,.bad,.bad,.bad,.bad,.bad,.bad,.bad,.bad,.bad,.bad,.bad,.bad,.bad,.bad,.bad,.bad,.bad,.bad,.bad,.bad,.bad,.bad,.bad,.bad,.bad,.bad,.bad,.bad,.bad,.bad,.bad,.bad,.bad,.bad,.bad,.bad,.bad,.bad,.bad,.bad,.bad,.bad,.bad,.bad,.bad,.bad,.bad,.bad,v51,v52,v53,.bad,.bad,.bad,.bad,.bad,.bad,.bad,.bad,.bad,.bad,.bad,.bad,.bad,.bad,.bad,.bad,.bad,.bad,.bad,.bad,.bad,.bad,.bad,.bad,.bad,.bad,.bad,.bad,.bad,.bad,.bad,.bad,.bad,.bad,.bad]
def Qvj(v0 v1 v7 v8:V):List V:=[v0,v1,.bad,.bad,.bad,.bad,.bad,v7,v8,.bad,.bad,.bad,.bad,.bad,.bad,.bad,.bad,.bad,.bad]
def Ql4(v0 v1 v7 v8:V):List V:=[v0,v1,.bad,.bad,.bad,.bad,.bad,v7,v8,.bad,.bad,.bad,.bad,.bad,.bad,.bad,.bad,.bad,.bad]
def Q9w(v2 v23 v24 v25:V):List V:=[.bad,.bad,v2,.bad,.bad,.bad,.bad,.bad,.bad,.bad,.bad,.bad,.bad,.bad,.bad,.bad,.bad,.bad,.bad,.bad,.bad,.bad,.bad,v23,v24,v25,.bad,.bad,.bad,.bad,.bad,.bad,.bad,.bad]
def Q93(v0 v1 v2 v4:V):List V:=[v0,v1,v2,.bad,v4,.bad,.bad,.bad,.bad,.bad,.bad,.bad,.bad,.bad,.bad,.bad,.bad,.bad,.bad,.bad,.bad,.bad,.bad,.bad,.bad,.bad,.bad,.bad,.bad,.bad,.bad]
def Q74(v0 v1 v6:V):List V:=[v0,v1,.bad,.bad,.bad,.bad,v6,.bad,.bad,.bad,.bad,.bad,.bad,.bad,.bad,.bad,.bad,.bad,.bad,.bad,.bad,.bad,.bad,.bad,.bad,.bad,.bad,.bad,.bad,.bad,.bad,.bad,.bad]
def Zay(v1 v2 v3 v11 v12 v13:V):List V:=[.bad,v1,v2,v3,.bad,.bad,.bad,.bad,.bad,.bad,.bad,v11,v12,v13,.bad,.bad,.bad,.bad,.bad,.bad,.bad,.bad,.bad,.bad,.bad,.bad,.bad,.bad,.bad,.bad,.bad,.bad,.bad,.bad,.bad,.bad,.bad,.bad,.bad,.bad,.bad,.bad,.bad,.bad,.bad,.bad,.bad,.bad,.bad,.bad,.bad,.bad,.bad,.bad,.bad,.bad,.bad,.bad,.bad,.bad,.bad]
def Q82(v1 v2 v27 v28 v29:V):List V:=[.bad,v1,v2,.bad,.bad,.bad,.bad,.bad,.bad,.bad,.bad,.bad,.bad,.bad,.bad,.bad,.bad,.bad,.bad,.bad,.bad,.bad,.bad,.bad,.bad,.bad,.bad,v27,v28,v29,.bad,.bad,.bad,.bad,.bad,.bad,.bad,.bad,.bad,.bad,.bad,.bad,.bad,.bad,.bad,.bad,.bad,.bad,.bad,.bad,.bad,.bad,.bad,.bad,.bad,.bad,.bad,.bad,.bad,.bad,.bad]
def Quh(v2 v43 v44 v45:V):List V:=[.bad,.bad,v2,.bad,.bad,.bad,.bad,.bad,.bad,.bad,.bad,.bad,.bad,.bad,.bad,.bad,.bad,.bad,.bad,.bad,.bad,.bad,.bad,.bad,.bad,.bad,.bad,.bad,.bad,.bad,.bad,.bad,.bad,.bad,.bad,.bad,.bad,.bad,.bad,.bad,.bad,.bad,.bad,v43,v44,v45,.bad,.bad,.bad,.bad,.bad,.bad,.bad,.bad,.bad,.bad,.bad,.bad,.bad,.bad,.bad]
def Ql7(v1 v3 v19 v20 v21:V):List V:=[.bad,v1,.bad,v3,.bad,.bad,.bad,.bad,.bad,.bad,.bad,.bad,.bad,.bad,.bad,.bad,.bad,.bad,.bad,v19,v20,v21,.bad,.bad,.bad,.bad,.bad,.bad,.bad,.bad,.bad,.bad,.bad,.bad,.bad,.bad,.bad,.bad,.bad,.bad,.bad,.bad,.bad,.bad,.bad,.bad,.bad,.bad,.bad,.bad,.bad,.bad,.bad]
def Qgq(v3 v33 v34 v35:V):List V:=[.bad,.bad,.bad,v3,.bad,.bad,.bad,.bad,.bad,.bad,.bad,.bad,.bad,.bad,.bad,.bad,.bad,.bad,.bad,.bad,.bad,.bad,.bad,.bad,.bad,.bad,.bad,.bad,.bad,.bad,.bad,.bad,.bad,v33,v34,v35,.bad,.bad,.bad,.bad,.bad,.bad,.bad,.bad,.bad,.bad,.bad,.bad,.bad,.bad,.bad,.bad,.bad]
def Q1f(v1 v5 v10 v11 v12:V):List V:=[.bad,v1,.bad,.bad,.bad,v5,.bad,.bad,.bad,.bad,v10,v11,v12,.bad,.bad,.bad,.bad,.bad,.bad,.bad,.bad,.bad,.bad,.bad,.bad,.bad]
def Q75(v3 v6 v7 v8:V):List V:=[.bad,.bad,.bad,v3,.bad,.bad,v6,v7,v8,.bad,.bad,.bad,.bad,.bad,.bad,.bad,.bad,.bad]
def Qve(v0 v8 v9 v10:V):List V:=[v0,.bad,.bad,.bad,.bad,.bad,.bad,.bad,v8,v9,v10,.bad,.bad,.bad,.bad,.bad,.bad,.bad,.bad,.bad,.bad,.bad,.bad,.bad,.bad,.bad,.bad,.bad,.bad,.bad,.bad,.bad,.bad,.bad,.bad,.bad,.bad,.bad]
def Q29(v0 v1 v2 v8 v9 v10:V):List V:=[v0,v1,v2,.bad,.bad,.bad,.bad,.bad,v8,v9,v10,.bad,.bad,.bad,.bad,.bad,.bad,.bad,.bad,.bad,.bad,.bad,.bad,.bad,.bad,.bad,.bad,.bad,.bad,.bad,.bad,.bad,.bad,.bad,.bad,.bad,.bad,.bad,.bad,.bad,.bad,.bad,.bad,.bad,.bad,.bad,.bad,.bad,.bad]
def Q3j(v2 v5 v30 v31:V):List V:=[.bad,.bad,v2,.bad,.bad,v5,.bad,.bad,.bad,.bad,.bad,.bad,.bad,.bad,.bad,.bad,.bad,.bad,.bad,.bad,.bad,.bad,.bad,.bad,.bad,.bad,.bad,.bad,.bad,.bad,v30,v31,.bad,.bad,.bad,.bad,.bad,.bad,.bad,.bad,.bad,.bad,.bad,.bad,.bad,.bad,.bad,.bad]
def Q3q(v0 v2 v3 v4:V):List V:=[v0,.bad,v2,v3,v4,.bad,.bad,.bad,.bad,.bad,.bad,.bad,.bad,.bad,.bad,.bad,.bad,.bad,.bad,.bad,.bad,.bad,.bad,.bad,.bad,.bad,.bad,.bad,.bad,.bad,.bad,.bad,.bad,.bad,.bad,.bad,.bad,.bad,.bad,.bad,.bad,.bad,.bad,.bad,.bad,.bad,.bad]
def Q31(v0 v2 v3 v9 v10 v11:V):List V:=[v0,.bad,v2,v3,.bad,.bad,.bad,.bad,.bad,v9,v10,v11,.bad,.bad,.bad,.bad,.bad,.bad,.bad,.bad,.bad,.bad,.bad,.bad,.bad,.bad,.bad,.bad,.bad,.bad,.bad,.bad,.bad,.bad,.bad,.bad,.bad,.bad]
def Qvz(v2 v6 v21 v22 v23:V):List V:=[.bad,.bad,v2,.bad,.bad,.bad,v6,.bad,.bad,.bad,.bad,.bad,.bad,.bad,.bad,.bad,.bad,.bad,.bad,.bad,.bad,v21,v22,v23,.bad,.bad,.bad,.bad,.bad,.bad,.bad,.bad,.bad,.bad,.bad,.bad,.bad,.bad]
def Q3n(v7 v8:V):List V:=[.bad,.bad,.bad,.bad,.bad,.bad,.bad,v7,v8,.bad,.bad,.bad,.bad,.bad,.bad,.bad,.bad,.bad,.bad,.bad,.bad,.bad,.bad,.bad,.bad,.bad,.bad,.bad,.bad,.bad,.bad,.bad,.bad,.bad,.bad,.bad,.bad,.bad,.bad,.bad,.bad,.bad,.bad,.bad,.bad,.bad,.bad,.bad]
def Qup(v0 v3 v4:V):List V:=[v0,.bad,.bad,v3,v4,.bad,.bad,.bad,.bad,.bad,.bad,.bad,.bad,.bad,.bad,.bad,.bad,.bad,.bad,.bad,.bad,.bad,.bad,.bad,.bad]
def Q26(v0 v1 v7 v8:V):List V:=[v0,v1,.bad,.bad,.bad,.bad,.bad,v7,v8,.bad,.bad,.bad,.bad,.bad,.bad,.bad,.bad,.bad,.bad]
def Q3t(v8 v9 v28 v29 v30:V):List V:=[.bad,.bad,.bad,.bad,.bad,.bad,.bad,.bad,v8,v9,.bad,.bad,.bad,.bad,.bad,.bad,.bad,.bad,.bad,.bad,.bad,.bad,.bad,.bad,.bad,.bad,.bad,.bad,v28,v29,v30,.bad,.bad,.bad,.bad,.bad,.bad,.bad,.bad,.bad,.bad,.bad,.bad,.bad,.bad]
def Q3y(v0 v3 v9 v10 v11:V):List V:=[v0,.bad,.bad,v3,.bad,.bad,.bad,.bad,.bad,v9,v10,v11,.bad,.bad,.bad,.bad,.bad,.bad,.bad,.bad,.bad,.bad,.bad,.bad,.bad,.bad,.bad,.bad,.bad,.bad,.bad,.bad,.bad,.bad,.bad,.bad]
def Qw3(v6 v25 v26 v27:V):List V:=[.bad,.bad,.bad,.bad,.bad,.bad,v6,.bad,.bad,.bad,.bad,.bad,.bad,.bad,.bad,.bad,.bad,.bad,.bad,.bad,.bad,.bad,.bad,.bad,.bad,v25,v26,v27,.bad,.bad,.bad,.bad,.bad,.bad,.bad,.bad]
def Q36(v2 v4 v5 v6:V):List V:=[.bad,.bad,v2,.bad,v4,v5,v6,.bad,.bad,.bad,.bad,.bad]
def Q3l(v0 v1 v2 v4:V):List V:=[v0,v1,v2,.bad,v4,.bad,.bad,.bad,.bad,.bad,.bad,.bad,.bad,.bad,.bad,.bad,.bad,.bad,.bad,.bad,.bad,.bad,.bad,.bad,.bad,.bad,.bad,.bad,.bad,.bad,.bad]
def Q24(v0 v1:V):List V:=[v0,v1,.bad,.bad,.bad,.bad,.bad,.bad,.bad,.bad,.bad,.bad,.bad,.bad,.bad,.bad,.bad]
def Qu2(v0 v1 v3:V):List V:=[v0,v1,.bad,v3,.bad,.bad,.bad,.bad,.bad,.bad,.bad,.bad,.bad,.bad,.bad,.bad,.bad,.bad,.bad]
def Q3g(v3 v9 v10:V):List V:=[.bad,.bad,.bad,v3,.bad,.bad,.bad,.bad,.bad,v9,v10,.bad,.bad,.bad,.bad,.bad,.bad,.bad,.bad,.bad,.bad,.bad,.bad,.bad]
def Q23(v0 v1 v2 v4:V):List V:=[v0,v1,v2,.bad,v4,.bad,.bad,.bad,.bad,.bad,.bad,.bad,.bad,.bad,.bad,.bad,.bad,.bad,.bad,.bad,.bad,.bad,.bad]
attribute [local irreducible] U W
theorem Q9z(v:V)(l:List UInt8)(hv:Qe v l):Fz Tryz.prog Qg 185 [v] fun r=>r= .func (.func 230) [] [.iptr [v] 0]:=by
 refine Zm Tryz.func185 rfl ?_;have c1:=hv.cells1;simp only[wA,↓Qc,simprocAttr,Tryz.ntmps185,ta,wH,wB,c1];have hf:frz (Qd [[(1,O.cells [v])]]) depth (.func (.func 230) [] [.ptr 0 1 0])=some (.func (.func 230) [] [.iptr [v] 0]):=by
  have e:=hv.frz (g:=Qd [[(1,O.cells [v])]]) 9;have e1:frz (Qd [[(1,O.cells [v])]]) 11 (.ptr 0 1 0)=some (.iptr [v] 0):=by show(Q5 (frz (Qd [[(1,O.cells [v])]]) 10) [v]).map _=_;rw[Qa e rfl];rfl
  show(match Q5 (frz _ 11) [],Q5 (frz _ 11) [.ptr 0 1 0] with|some a,some b=>some (V.func _ a b)|_,_=>none)=_;rw[Qa e1 rfl];rfl
 exact W.done (Q0.ret (v:= .func (.func 230) [] [.ptr 0 1 0]) rfl hf rfl)
theorem Q96(v:V)(l:List UInt8)(hv:Qe v l)(hl:l.length<=281474976710656)(fo so:Nat)(HS:Nat->Heap)(hlen:∀i,(HS i).length=(HS l.length).length)(hw:WF (HS 0))
 (step:∀i (h:i<l.length),Qn Tryz.prog Qg none [.yield fo so,.int .i64 i,.int .u8 l[i].toNat] (HS (i+1)++[[]])=some (.ret (.bool true),HS i++[[]])):
 CW Tryz.prog Qg 230 [.yield fo so,.iptr [v] 0] (HS l.length) fun r H' =>r= .ret (.tuple [])/\H' =HS 0:=by
 refine Zu Tryz.func230 rfl ?_;have len:=hv.len Tryz.underlying26;have w0:(IntKind.i64).wrap ((l.length:Int)-1)=(l.length:Int)-1:=by rw[wrap_i64]<;>omega
 simp only[wA,↓Qc,simprocAttr,Tryz.ntmps230,ta,wH,wB,len,w0];refine W.ul ?_;refine W.loopS (kt:=[0,1,3]) rfl (fun i:Nat=>Qu2 (.yield fo so) (.iptr [v] 0) (.int .i64 ((i:Int)-1))) (fun i=>HS i++[[]]) (fun i=>i<=l.length) (fun i=>i) ?_ l.length (Zn6 _) rfl rfl;intro j hj;cases j with
 |zero=>
  have c1:decide ((((0:Nat):Int)-1)>=0)=false:=rfl;simp only[Qu2];simp only[wA,↓Qc,simprocAttr,c1];refine W.done ?_;simp only[wA,↓Qc,simprocAttr];refine W.done (End.normal (v:= .tuple []) rfl ⟨rfl,?_⟩);have:=Zf (H:=HS 0) (G:=[[]]) (v:= .tuple []) rfl hw;rw[hlen] at this;exact this
 |succ i=>
  have e:((i+1:Nat):Int)-1=i:=by omega
  have c1:decide ((i:Int)>=0)=true:=by simp
  have at1:=hv.at (k:= .i64) Tryz.underlying26 sz5 (by decide) (i:=(i:Int)) (by omega) (by omega);have get1:(Qb l)[(i:Int).toNat*1]?=some (.int .u8 l[i].toNat):=by have:i<l.length:=hj;simp[Qeh,this]
  have get1' :(Qb l)[(i:Int).toNat]?=some (.int .u8 l[i].toNat):=by simpa using get1
  have st:=step i hj;have w1:(IntKind.i64).wrap ((i:Int)-1)=(i:Int)-1:=by rw[wrap_i64]<;>omega
  simp only[Qu2,e];simp only[wA,↓Qc,simprocAttr,ta,wH,wB,c1,len,at1,get1,get1',rd5,st,Qaw,Qj3,w1];exact W.done ⟨i,rfl,rfl,by omega,by omega⟩
theorem Qom(k:Nat):Fz Tryz.prog Qg 113 [.int .i64 k] fun r=>r= .bool (decide (0<k)&&decide (k<=4)):=by
 refine Zm Tryz.func113 rfl ?_;have c1:decide ((k:Int)>0)=decide (0<k):=by simp
 have c2:decide ((k:Int)<=4)=decide (k<=4):=by simp;omega
 simp only[wA,↓Qc,simprocAttr,Tryz.ntmps113,ta,wH,wB,c1,c2];cases h:decide (0<k) with
 |true=>
  simp only[wA,↓Qc,simprocAttr];exact W.done (Q0.ret rfl rfl (by simp;omega))
 |false=>
  simp only[wA,↓Qc,simprocAttr];exact W.done (Q0.ret rfl rfl (by simp))
def Yp:List UInt8->Nat
 |[]=>0
 |b::r=>b.toNat+256*Yp r
theorem Qoa:∀l:List UInt8,Yp l<256^l.length
 |[]=>by decide
 |b::r=>by
  have:=Qoa r;have hb:=UInt8.toNat_lt b;simp only[Yp,Zp9,Nat.pow_succ];omega
def getR(l:List UInt8)(at_ k:Nat):Nat×Nat:=
 if !(decide (0<k)&&decide (k<=4))||decide (l.length<at_) then(0,2) else if l.length<at_+k then(0,8) else(Yp ((l.drop at_).take k),0)
theorem Q25{n:Nat}(h:1<=n){s r f x:Nat}{T:List V}{G:AM.Heap}(hr:Qi (fun f _=>Nat.ble 1 f) T=false){o:AM.O}(ho:o.refs (fun f _=>Nat.ble 1 f)=false)(hG:G=[[]]\/G=[]):WF ([[(s,o),(r,.loop 0 none f x T)]]++G):=by
 have h1:Q2 (fun f _=>Nat.ble 1 f) [[(s,o),(r,.loop 0 none f x T)]]=true:=by have h0:(O.loop 0 none f x T).refs (fun f _=>Nat.ble 1 f)=false:=hr;simp only[Q2,Zg,ho,h0];rfl
 have h2:WF [[(s,o),(r,O.loop 0 none f x T)]]:=h1;rcases hG with rfl|rfl
 . exact h2.app rfl
 . exact h2
theorem Q5b(p:List UInt8)(n:Nat)(hn:Yp p<4294967296)(T:List V)(hT:T.length=43)(h8:T.getD 8 .bad= .ptr 0 8 0)(hr:Qi (fun f _=>Nat.ble 1 f) T=false)(i:Nat)(hi:i<p.length)(hnl:Yp (p.drop i)<4294967296):
 Qn Tryz.prog Qg none [.yield 0 1000009,.int .i64 i,.int .u8 p[i].toNat] ([[(8,.cells [.int .i64 (Yp (p.drop (i+1)))]),(1000009,.loop 0 none 140 9 T)]]++[[]])=some (.ret (.bool true),[[(8,.cells [.int .i64 (Yp (p.drop i))]),(1000009,.loop 0 none 140 9 T)]]++[[]]):=by
 obtain⟨r,H3,h1,rfl,rfl⟩:=Qe3 (P:=Tryz.prog) (pol:=Qg) (fo:=0) (so:=1000009) (args:=[.int .i64 i,.int .u8 p[i].toNat]) (H:=[[(8,.cells [.int .i64 (Yp (p.drop (i+1)))]),(1000009,.loop 0 none 140 9 T)],[]]) (p:=none) (fL:=140) (rid:=9) (t0:=T)
  (R:=fun r H3=>r= .ret (.bool true)/\H3=[[(8,.cells [.int .i64 (Yp (p.drop i))]),(1000009,.loop 0 none 140 9 T)],[]]) rfl (Qcw Tryz.func140 rfl rfl) rfl (by
    have ed:p.drop i=p[i]::p.drop (i+1):=Zqt hi;have en:Yp (p.drop i)=p[i].toNat+256*Yp (p.drop (i+1)):=by rw[ed];rfl
    change W (U _ _ _ _ _ _ _ .normal ((T.set 35 _).set 36 _) _) _;have hL:∀a b x y,((T.set a x).set b y).length=43:=fun a b x y=>by simp[hT]
    simp only[wA,↓Qc,simprocAttr,wH,wB,ta,Qaq,Qas,Zql,hT,h8,Nat.reduceBEq];refine W.done ⟨rfl,none,140,9,T,rfl,?_⟩;have nl:Yp (p.drop (i+1))<16777216:=by omega
    have hb:=UInt8.toNat_lt p[i];have w1:(IntKind.i64).wrap (256*(Yp (p.drop (i+1)):Int))=((256*Yp (p.drop (i+1)):Nat):Int):=by rw[wrap_i64]<;>omega
    have w2:(IntKind.i64).wrap (((256*Yp (p.drop (i+1)):Nat):Int)+(p[i].toNat:Int))=(Yp (p.drop i):Int):=by rw[wrap_i64]<;>omega
    have cv:∀g,convertV Tryz.prog g 5 3 (.int .u8 p[i].toNat)=some (.val (.int .i64 p[i].toNat) none):=fun g=>by
     simp only[convertV,Tryz.underlying3,Tryz.underlying5];have:(IntKind.i64).wrap (p[i].toNat:Int)=p[i].toNat:=by rw[wrap_i64]<;>omega
     simp only[this]
    simp only[wA,↓Qc,simprocAttr,wH,wB,ta,Qaq,Qas,Zql,hT,h8,Nat.reduceBEq,w1,w2,cv];refine W.done ⟨_,_,rfl,rfl,?_⟩
    exact Zf (H:=[[(8,.cells [.int .i64 (Yp (p.drop i))]),(1000009,.loop 0 none 140 9 T)],[]]) (G:=[[]]) rfl (Q25 (n:=1) (by omega) hr rfl (.inl rfl)))
 exact h1
theorem Q7o(w:V)(p:List UInt8)(hw:Qe w p)(hp:p.length<=4)(T:List V)(hT:T.length=43)(h8:T.getD 8 .bad= .ptr 0 8 0)(hr:Qi (fun f _=>Nat.ble 1 f) T=false):
 CW Tryz.prog Qg 230 [.yield 0 1000009,.iptr [w] 0] [[(8,.cells [.int .i64 0]),(1000009,.loop 0 none 140 9 T)]] fun r H' =>r= .ret (.tuple [])/\H' =[[(8,.cells [.int .i64 (Yp p)]),(1000009,.loop 0 none 140 9 T)]]:=by
 have lt:∀i,Yp (p.drop i)<4294967296:=fun i=>by have h1:=Qoa (p.drop i);have h2:256^(p.drop i).length<=256^4:=Nat.pow_le_pow_right (by decide) (by simp;omega);exact Zn9 h1 h2
 have:=Q96 w p hw (by omega) 0 1000009 (fun i=>[[(8,.cells [.int .i64 (Yp (p.drop i))]),(1000009,.loop 0 none 140 9 T)]]) (fun _=>rfl) (Q25 (n:=1) (G:=[]) (by omega) hr rfl (.inr rfl))
  (fun i hi=>Q5b p 0 (lt 0) T hT h8 hr i hi (lt i))
 have e:Yp (p.drop p.length)=0:=by rw[List.drop_length];rfl
 simp only[e] at this;exact this
def Qsa(n a k:Nat)(p:List UInt8):Nat×Nat:=
 if !(decide (0<k)&&decide (k<=4))||decide (n<a) then(0,2) else if n<a+k then(0,8) else(Yp p,0)
theorem get_sl(v:V)(cells:List V)(n:Nat)(hv:Qw 1 v cells n)(hl:n<=281474976710656)(a k:Nat)(ha:a<=281474976710656)(hk:k<=4294967296)(p:List UInt8)(hp:a+k<=n->k<=4->(cells.drop a).take k=Qb p):
 Fz Tryz.prog Qg 140 [v,.int .i64 a,.int .i64 k] fun r=>r= .tuple [.int .i64 (Qsa n a k p).1,.int .i64 (Qsa n a k p).2]:=by
 refine Zm Tryz.func140 rfl ?_;obtain⟨m,rfl,hm⟩:=(Qom k).op (by rfl) rfl;have hm' :∀s H,_:=fun s H=>hm 140 0 s H rfl;have len:=hv.len Tryz.underlying26;have c0:decide ((a:Int)<0)=false:=by simp
 have c1:decide ((a:Int)>n)=decide (n<a):=by simp
 have w1:(IntKind.i64).wrap ((a:Int)+k)=((a+k:Nat):Int):=by rw[wrap_i64]<;>omega
 have c2:decide (((a+k:Nat):Int)>n)=decide (n<a+k):=by simp;omega
 generalize hs:(decide (0<k)&&decide (k<=4))=sz at*;simp only[wA,↓Qc,simprocAttr,Tryz.ntmps140,ta,wH,wB,hm',len];have err:∀(x:Nat) (T:List V),T.getD 6 .bad= .int .i64 0->T.getD 7 .bad= .int .i64 x->Qsa n a k p=(0,x)->Q0 Tryz.prog Tryz.f140 (fun r=>r= .tuple [.int .i64 (Qsa n a k p).1,.int .i64 (Qsa n a k p).2]) .ret T [[]]:=by intro x T h1 h2 h3;refine Q0.ret (v:= .tuple [.int .i64 0,.int .i64 x]) ?_ rfl (by rw[h3];rfl);show(match Qha Tryz.prog T [[]] [.tmp 6,.tmp 7] with|some [v]=>some v|some vs=>some (V.tuple vs)|none=>none)=_;simp only[Qha,Qak,h1,h2]
 cases sz with
 |false=>
  simp only[wA,↓Qc,simprocAttr];refine W.done (err 2 _ rfl rfl ?_);simp[Qsa,hs]
 |true=>
  simp only[wA,↓Qc,simprocAttr,c0,c1,len];refine W.ite (fun h=>?_) (fun h=>?_)
  . simp only[wA,↓Qc,simprocAttr];refine W.done (err 2 _ rfl rfl ?_);simp only[decide_eq_true_eq] at h;simp[Qsa,hs,h]
  . have h' :¬n<a:=by simpa using h
    simp only[wA,↓Qc,simprocAttr,len,w1,c2];refine W.ite (fun h2=>?_) (fun h2=>?_)
    . simp only[wA,↓Qc,simprocAttr];refine W.done (err 8 _ rfl rfl ?_);simp only[decide_eq_true_eq] at h2;simp[Qsa,hs,h',h2]
    . have h2' :¬n<a+k:=by simpa using h2
      have hg:Qsa n a k p=(Yp p,0):=by simp[Qsa,hs,h',h2']
      rw[hg];have kl:k<=4:=by rw[Zok,decide_eq_true_eq,decide_eq_true_eq] at hs;exact hs.2
      obtain⟨w,sl,hw0⟩:=hv.cut (P:=Tryz.prog) Tryz.underlying26 sz5 (some (a:Int)) (some ((a+k:Nat):Int)) (by simp) (by simp only[Zpb];omega) (by simp only[Zpb];omega);have e1:((some ((a+k:Nat):Int)).getD n).toNat-((some (a:Int)).getD 0).toNat=k:=by simp only[Zpb,Zqh];omega
      have e2:((some (a:Int)).getD 0).toNat*1=a:=by simp
      rw[e1,e2,Zof,hp (by omega) kl] at hw0;simp only[Zn2] at sl;have pl:p.length=k:=by have:=hw0.1;rw[Qy] at this;omega
      have hw:Qe w p:=by unfold Qe;rw[pl];exact hw0
      obtain⟨m3,rfl,hm3⟩:=(Q9z w p hw).op (by rfl) (Qa (hw.frz _) rfl);have hm3' :∀s H,_:=fun s H=>hm3 140 0 s H rfl;simp only[wA,↓Qc,simprocAttr,wH,wB,ta,w1,sl,hm3'];refine W.rfunc (rid:=9) rfl rfl rfl ?_;refine(Q7o w p hw (by omega) _ rfl rfl ?_).mono ?_
      . simp only[Qi,V.refs,hv.noRefs,hw.noRefs];rfl
      rintro r H2 ⟨rfl,rfl⟩;refine⟨_,rfl,?_⟩;rw[Qjk (st:=0) (f:=140) (r:=9) rfl (by decide) (by simp only[Qi,V.refs,hv.noRefs,hw.noRefs];rfl) rfl];have hH:∀T,List.modify [[(8,O.cells [V.int .i64 (Yp p)]),(1000009,O.loop 0 none 140 9 T)]] 0 (Ju fun x=>[Zd 9].contains x)=[[(8,O.cells [V.int .i64 (Yp p)])]]:=fun T=>rfl;rw[hH];simp only[wA,↓Qc,simprocAttr,wH,wB,ta,Qaw];exact W.done (Q0.ret (v:= .tuple [.int .i64 (Yp p),.int .i64 0]) rfl rfl rfl)
theorem get_fz(v:V)(l:List UInt8)(hv:Qe v l)(hl:l.length<=281474976710656)(a k:Nat)(ha:a<=281474976710656)(hk:k<=4294967296):
 Fz Tryz.prog Qg 140 [v,.int .i64 a,.int .i64 k] fun r=>r= .tuple [.int .i64 (getR l a k).1,.int .i64 (getR l a k).2]:=
 get_sl v (Qb l) l.length hv hl a k ha hk ((l.drop a).take k) (fun _ _=>by simp[Qb])
theorem Qt5(v:V)(l:List UInt8)(hv:Qe v l)(hl:l.length=4):Fz Tryz.prog Qg 169 [v] fun r=>r= .int .u32 (Yp l):=by
 refine Zm Tryz.func169 rfl ?_;obtain⟨m,rfl,hm⟩:=(get_fz v l hv (by omega) 0 4 (by omega) (by omega)).op (by rfl) (Qa (hv.frz _) rfl);have e:getR l 0 4=(Yp l,0):=by have:l.take 4=l:=Zpf (by omega);simp[getR,hl,this]
 have lt:=Qoa l;rw[hl] at lt;rw[e] at hm;have hm' :∀s H,AM.callOp Qg (Qn Tryz.prog Qg) 169 0 s 140 [v,.int .i64 0,.int .i64 4] H=some (.ret (.tuple [.int .i64 (Yp l),.int .i64 0]),H):=fun s H=>hm 169 0 s H rfl;have cv:∀g,convertV Tryz.prog g 3 27 (.int .i64 (Yp l))=some (.val (.int .u32 (Yp l)) none):=fun g=>by
  simp only[convertV,Tryz.underlying3,Tryz.underlying27];have:(IntKind.u32).wrap (Yp l:Int)=Yp l:=by rw[IntKind.wrap_u32];omega
  simp only[this]
 simp only[wA,↓Qc,simprocAttr,Tryz.ntmps169,ta,wH,wB,hm',cv];exact W.done (Q0.ret (v:= .int .u32 (Yp l)) rfl rfl rfl)
theorem cut3{P:Program}{u e:TypeId}{v:V}{l:List UInt8}(hu:P.underlying u=some (.slice e))(hs:sz P e=some 1)(h:Qe v l){a b:Nat}(h1:a<=b)(h2:b<=l.length)(g:Get):
 ∃w,(∀g,Zn P g u v (some (.int .i64 a)) (some (.int .i64 b)) (some (.int .i64 b))=some w)/\Qe w ((l.drop a).take (b-a))/\((w= .nS/\v= .nS)\/∃c n,w= .iS c n true):=by
 have ol:∀x:Nat,Jt (some (.int .i64 x))=some (some (x:Int)):=fun x=>rfl;obtain⟨hl,⟨rfl,h0⟩|⟨f,rfl⟩⟩:=h
 . have hb:b=0:=by omega
   have ha:a=0:=by omega
   subst hb ha;refine⟨.nS,fun g=>?_,?_,.inl ⟨rfl,rfl⟩⟩
   . simp only[Zn,ol,hu,hs,Xh];rfl
   . rw[Nat.sub_self,List.take_zero];exact Qe.nil
 . refine⟨.iS (((Qb l).drop (a*1)).take ((b-a)*1)) (b-a) true,fun g=>?_,?_,.inr ⟨_,_,rfl⟩⟩
   . simp only[Zn,ol,hu,hs,Qll,hl,if_true,Xh,Zpb];rw[if_pos ⟨by omega,by omega,by omega,by omega,by omega,by omega,by simp⟩];simp
   . rw[Zof,Zof,Qlq,Qbc];have:((l.drop a).take (b-a)).length=b-a:=by simp;omega
     have h3:=Qe.mk ((l.drop a).take (b-a)) true;rwa[this] at h3
theorem Zbf(v:V)(l:List UInt8)(hv:Qe v l)(k:Nat)(hk:0<k):Fz Tryz.prog Qg 131 [v,.int .i64 k] fun r=>r= .func (.func 183) [] [.iptr [v] 0,.iptr [.int .i64 k] 0]:=by
 refine Zm Tryz.func131 rfl ?_;have c1:=hv.cells1;have c2:decide ((k:Int)<1)=false:=by simp;omega
 simp only[wA,↓Qc,simprocAttr,Tryz.ntmps131,ta,wH,wB,c1,c2];have hf:frz (Qd [[(2,O.cells [v]),(3,O.cells [.int .i64 k])]]) depth (.func (.func 183) [] [.ptr 0 2 0,.ptr 0 3 0])=some (.func (.func 183) [] [.iptr [v] 0,.iptr [.int .i64 k] 0]):=by
  have e:=hv.frz (g:=Qd [[(2,O.cells [v]),(3,O.cells [.int .i64 k])]]) 9;have e1:frz (Qd [[(2,O.cells [v]),(3,O.cells [.int .i64 k])]]) 11 (.ptr 0 2 0)=some (.iptr [v] 0):=by show(Q5 (frz (Qd [[(2,O.cells [v]),(3,O.cells [.int .i64 k])]]) 10) [v]).map _=_;rw[Qa e rfl];rfl
  show(match Q5 (frz _ 11) [],Q5 (frz _ 11) [.ptr 0 2 0,.ptr 0 3 0] with|some a,some b=>some (V.func _ a b)|_,_=>none)=_;rw[Qa e1 (Qa (y:= .iptr [.int .i64 k] 0) rfl rfl)];rfl
 exact W.done (Q0.ret (v:= .func (.func 183) [] [.ptr 0 2 0,.ptr 0 3 0]) rfl hf rfl)
theorem Q9a(v:V)(l:List UInt8)(hv:Qe v l)(hl:l.length<=281474976710656)(k:Nat)(hk:0<k)(hk2:k<=281474976710656)(m:Nat)(hm:l.length=k*m)(fo so:Nat)(HS:Nat->Heap)(hlen:∀i,(HS i).length=(HS 0).length)(hw:WF (HS m))
 (step:∀j,j<m->∀w,Qe w ((l.drop (k*j)).take k)->Qn Tryz.prog Qg none [.yield fo so,w] (HS j++[[]])=some (.ret (.bool true),HS (j+1)++[[]])):
 CW Tryz.prog Qg 183 [.yield fo so,.iptr [v] 0,.iptr [.int .i64 k] 0] (HS 0) fun r H' =>r= .ret (.tuple [])/\H' =HS m:=by
 refine Zu Tryz.func183 rfl ?_;have len:=hv.len Tryz.underlying26;simp only[wA,↓Qc,simprocAttr,Tryz.ntmps183,ta,wH,wB];refine W.ul ?_;refine W.loopS (kt:=[0,1,2,4]) rfl (fun j:Nat=>Q3l (.yield fo so) (.iptr [v] 0) (.iptr [.int .i64 k] 0) (.int .i64 ((k*j:Nat):Int))) (fun j=>HS j++[[]]) (fun j=>j<=m) (fun j=>m-j) ?_ 0 (Zq1 _) rfl rfl;intro j hj;simp only[Q3l];by_cases h:j<m
 . have hle:k*j+k<=l.length:=by
    have:k*(j+1)<=k*m:=Nat.mul_le_mul_left k h;rw[Nat.mul_succ] at this;omega
   have c1:decide (((k*j:Nat):Int)<l.length)=true:=by simp only[decide_eq_true_eq];omega
   obtain⟨w1,sl1,hw1⟩:=hv.cut (P:=Tryz.prog) Tryz.underlying26 sz5 (some ((k*j:Nat):Int)) none (by simp only[Zpb];omega) (by simp only[Zpb,Zo0];omega) (by simp only[Zo0];omega);have len1:=hw1.len Tryz.underlying26;have e1:((l.drop ((some ((k*j:Nat):Int)).getD 0).toNat).take (((none:Option Int).getD l.length).toNat-((some ((k*j:Nat):Int)).getD 0).toNat)).length=l.length-k*j:=by simp only[Zpb,Zo0,Zqh,Zo1,Zo2];omega
   rw[e1] at len1;simp only[Zn2,Zpl] at sl1;have mn:(if((l.length-k*j:Nat):Int)<(k:Int) then((l.length-k*j:Nat):Int) else(k:Int))=k:=if_neg (by omega);have w2:(IntKind.i64).wrap (((k*j:Nat):Int)+k)=((k*j+k:Nat):Int):=by rw[wrap_i64]<;>omega
   obtain⟨w3,sl3,hw3,_⟩:=cut3 (P:=Tryz.prog) Tryz.underlying26 sz5 hv (a:=k*j) (b:=k*j+k) (by omega) hle (fun _ _=>none);rw[Nat.add_sub_cancel_left] at hw3;have st:=step j h w3 hw3;generalize hP:(k*j:Nat)=p at*;generalize hQ:(p+k:Nat)=q at*;simp only[wA,↓Qc,simprocAttr,ta,wH,wB,c1,len,len1,sl1,sl3,mn,w2,st,Qaw,Qj3];refine W.opsK (by kernel_rfl) ?_;simp only[wA,↓Qc,simprocAttr,ta,wH,wB,c1,len,len1,sl1,sl3,mn,w2,st,Qaw,Qj3];refine W.done ⟨j+1,?_,rfl,h,by omega⟩;have e2:k*(j+1)=q:=by rw[Nat.mul_succ,hP,hQ]
   rw[e2];rfl
 . have hjm:j=m:=by omega
   subst hjm;have c1:decide (((k*j:Nat):Int)<l.length)=false:=by simp only[decide_eq_false_iff_not];omega
   simp only[wA,↓Qc,simprocAttr,ta,wH,wB,len,c1];refine W.done ?_;simp only[wA,↓Qc,simprocAttr];refine W.done (End.normal (v:= .tuple []) rfl ⟨rfl,?_⟩);have:=Zf (H:=HS j) (G:=[[]]) (v:= .tuple []) rfl hw;rw[hlen] at this;exact this
end
end Go.Proofs.YtjllfbejpjonnaaGreatDoor
