/- This file holds in one the texts D00, D0, DF; each says at its head what it proves. -/
import Derived.Test.YtpdimkonjmoadaaGreatDoorT10
import Derived.Test.YtpdimkonjmoadaaGreatDoorT12
import Derived.Test.YtpdimkonjmoadaaGreatDoorChecked
set_option linter.unusedSimpArgs false
set_option linter.unusedVariables false
namespace Go.Proofs.YtpdimkonjmoadaaGreatDoor
section
open Go.AM
theorem Qyz{α:Type}(g:α->Bool)(l:List α)(c:Nat):∀k:Nat,(∀i,i<k->((l.drop (c*i)).take c).all g=true)->(l.drop (c*k)).all g=true->l.all g=true
 |0,_,h=>by simpa using h
 |k+1,h1,h2=>by
  refine Qyz g l c k (fun i hi=>h1 i (by omega)) ?_;have e:l.drop (c*k)=(l.drop (c*k)).take c++l.drop (c*(k+1)):=by have:=(Zqa c (l.drop (c*k))).symm;rw[Zq5] at this;rw[Nat.mul_succ];exact this
  rw[e,Zr0,h1 k (by omega),h2];rfl
def gD(F:Func):Bool:=match F.body with|some c=>drawsC c|none=>true
def gN(F:Func):Bool:=F.body.isNone|| !(F.name== "runtime.NumGoroutine")
def gL(F:Func):Bool:=match F.body with|some c=>decide ((Q2 c).Nodup)&&flatC c|none=>true
theorem dr0:((Tryz.prog.funcs.toList.drop (40*0)).take 40).all gD=true:=by kernel_rfl
theorem dr1:((Tryz.prog.funcs.toList.drop (40*1)).take 40).all gD=true:=by kernel_rfl
theorem dr2:((Tryz.prog.funcs.toList.drop (40*2)).take 40).all gD=true:=by kernel_rfl
theorem dr3:((Tryz.prog.funcs.toList.drop (40*3)).take 40).all gD=true:=by kernel_rfl
theorem dr4:((Tryz.prog.funcs.toList.drop (40*4)).take 40).all gD=true:=by kernel_rfl
theorem dr5:((Tryz.prog.funcs.toList.drop (40*5)).take 40).all gD=true:=by kernel_rfl
theorem dr6:((Tryz.prog.funcs.toList.drop (40*6)).take 40).all gD=true:=by kernel_rfl
theorem dr7:((Tryz.prog.funcs.toList.drop (40*7)).take 40).all gD=true:=by kernel_rfl
theorem dr8:((Tryz.prog.funcs.toList.drop (40*8)).take 40).all gD=true:=by kernel_rfl
theorem dr9:((Tryz.prog.funcs.toList.drop (40*9)).take 40).all gD=true:=by kernel_rfl
theorem dr10:((Tryz.prog.funcs.toList.drop (40*10)).take 40).all gD=true:=by kernel_rfl
theorem dr11:((Tryz.prog.funcs.toList.drop (40*11)).take 40).all gD=true:=by kernel_rfl
theorem dr12:((Tryz.prog.funcs.toList.drop (40*12)).take 40).all gD=true:=by kernel_rfl
theorem dr13:((Tryz.prog.funcs.toList.drop (40*13)).take 40).all gD=true:=by kernel_rfl
theorem drE:(Tryz.prog.funcs.toList.drop (40*14)).all gD=true:=by kernel_rfl
theorem Q6w:Tryz.prog.funcs.all gD=true:=by
 rw[<-Array.all_toList];refine Qyz gD _ 40 14 ?_ drE;intro i hi
 match i,hi with
 |0,_=>exact dr0
 |1,_=>exact dr1
 |2,_=>exact dr2
 |3,_=>exact dr3
 |4,_=>exact dr4
 |5,_=>exact dr5
 |6,_=>exact dr6
 |7,_=>exact dr7
 |8,_=>exact dr8
 |9,_=>exact dr9
 |10,_=>exact dr10
 |11,_=>exact dr11
 |12,_=>exact dr12
 |13,_=>exact dr13
 |n+14,h=>omega
theorem Zdm:Tryz.prog.funcs.all gN=true:=by kernel_rfl
theorem Q62:Tryz.prog.funcs.all gL=true:=by kernel_rfl
def inlD:List Nat:=[107,79,239,143,53,480,45,78,46,73,105,71,72,502,420,377,49,50,216,217,218,319,321,186,267,162,493,503,322,12,27]
def mtL(f s:Nat):Bool:=[(107,32),(52,5),(52,7),(53,5),(53,7),(21,7),(21,5),(377,22),(49,5),(49,7),(50,5),(50,7),(22,75),(323,18),(414,8)].contains (f,s)
def mtD:Nat->Nat->Bool:=fun f s=>if s<2000000 then mtL f s else !(f==174&&s==2000002||f==148&&s==2000003||f==189&&s==2000001||f==302&&s==2000003||f==318&&s==2000003)
def Qf:Pol where
 pure:=fun f g=>(!inlD.contains g&& !(g==21&&(f==502||f==12))&& !(g==22&&f==216)&& !(g==52&&f==464)&& !(g==318&&f==217)&& !(g==323&&f==218)&& !(g==175&&f==323))||(g==143&&(f==275||f==300)||g==79&&(f==47||f==302)||g==78&&f==148||g==72&&f==352)
 mt:=mtD
 keep:=fun f r=>match f,r with
  |67,3=>some ([1,3,19,20,21],[])
  |67,8=>some ([3,33,34,35],[7])
  |79,3=>some ([1,2,3,11,12,13],[])
  |79,9=>some ([1,2,27,28,29],[])
  |79,14=>some ([2,43,44,45],[9])
  |143,3=>some ([2,4,16],[6])
  |107,3=>some ([0,2,3,9,10,11],[])
  |107,9=>some ([2,6,21,22,23],[32])
  |259,8=>some ([7,8],[])
  |239,3=>some ([1,5,10,11,12],[7])
  |102,5=>some ([0,3,4],[])
  |382,2=>some ([2,4,5,6],[])
  |277,3=>some ([0,2,3,4],[])
  |278,1=>some ([0,1,2,4],[])
  |383,1=>some ([0,1,3],[])
  |195,4=>some ([0,1,6],[])
  |197,3=>some ([3,9,10],[])
  |20,4=>some ([1,34,35,36],[])
  |20,12=>some ([1,108,109,110],[6])
  |105,2=>some ([0,1,7,8],[])
  |78,2=>some ([0,1,7,8],[])
  |40,4=>some ([0,10,11,12],[4])
  |40,10=>some ([0,51,52,53],[4,6])
  |424,3=>some ([0,2,4,8,9,10],[])
  |74,3=>some ([0,1,2,8,9,10],[])
  |69,4=>some ([0,8,9,10],[4])
  |77,3=>some ([3,6,7,8],[])
  |177,6=>some ([0,2,4,5,13,14],[])
  |272,2=>some ([0,1,7,8],[])
  |262,3=>some ([0,3,9,10,11],[])
  |262,11=>some ([6,25,26,27],[])
  |420,3=>some ([3,6,7,8],[5])
  |10,5=>some ([1,3,4],[])
  |10,9=>some ([1,3,5],[])
  |10,13=>some ([1,3,6],[])
  |10,17=>some ([1,3,7],[])
  |37,5=>some ([1,3,4],[])
  |37,9=>some ([1,3,5],[])
  |100000,10=>some ([1,2,3,8,10,11,12,13],[])
  |466,2=>some ([1,2,10],[])
  |468,3=>some ([0,1,2,8,9,10],[])
  |492,7=>some ([8,9,28,29,30],[])
  |507,2=>some ([0,1,2,4],[])
  |472,1=>some ([0,1,2,4],[])
  |375,2=>some ([3,4,5,8,9],[25,26])
  |100001,9=>some ([1,2,5,6,8,9],[])
  |216,6=>some ([1,2,5,6,25,26,27],[8])
  |217,7=>some ([1,2,3,51,52],[])
  |22,4=>some ([1,2,27,28],[])
  |22,9=>some ([1,2,46,47],[])
  |22,15=>some ([1,2,75,76,77],[])
  |22,18=>some ([1,2,6,75,76,77,81,82,83],[])
  |186,5=>some ([0,1,5,6],[7])
  |323,8=>some ([11,47,48,49],[15])
  |267,2=>some ([0,1,7,8],[])
  |410,7=>some ([2,23,24,25],[])
  |413,1=>some ([0,1,2,4],[])
  |274,6=>some ([2,5,30,31],[])
  |503,2=>some ([0,1],[])
  |100002,3=>some ([1,5,6],[])
  |100003,3=>some ([0,2,3,4],[])
  |100004,3=>some ([0,3,4],[])
  |100005,3=>some ([0,1,5,6],[])
  |100006,5=>some ([0,4,5],[6])
  |100007,3=>some ([1,3,4],[])
  |100007,8=>some ([1,3,5],[])
  |100008,2=>some ([1,2,3,7],[])
  |100009,4=>some ([0,3],[])
  |100010,4=>some ([1,3],[])
  |100011,5=>some ([0,2,4,5],[6])
  |100012,4=>some ([1,3,4],[])
  |100013,4=>some ([0,3],[])
  |100014,8=>some ([2,3,4,8,10,11],[12])
  |100014,16=>some ([2,3,4,8,10,11,12,14],[])
  |63,4=>some ([0,1,5],[])
  |32,4=>some ([0,1,5],[])
  |35,4=>some ([0,1,5],[])
  |62,5=>some ([2,3,5,6],[])
  |62,10=>some ([2,3,5,7],[8,9])
  |15,4=>some ([2,3,5],[])
  |15,9=>some ([2,3,6],[])
  |7,4=>some ([2,3,5],[])
  |5,2=>some ([1,3],[])
  |11,4=>some ([35,36,37],[4])
  |12,3=>some ([3,21,22,23],[5])
  |3,11=>some ([1,2,3,8,12],[])
  |_,_=>none
 thin:=fun _ g=>g==107
 lift:=fun f g=>g==53||g==21&&(f==502||f==12)||g==377||g==420||g==49||g==50&& !(f==218)||g==52&&f==464
 look:=fun f g=>g==72||g==78&&f==318||g==323&&f==218||g==175&&f==323
 peek:=fun f g=>f==217&&g==318
 side:=fun f g=>if f==6&&g==12 then some ([9,55],none) else if f==6&&g==27 then some ([],some 9) else none
 news:=fun f s=>if f==6&&s==9 then some [.int .i64 0,.int .i64 0,.nS,.nS,.int .i64 0,.int .u8 0,.int .i64 0,.int .i64 0,.str [],.nS] else none
 prim:=fun f=>if f=193 then some K9 else if f=504 then some Kq else none
theorem Zaz(f s:Nat):Qf.mt f (Qof s)=if f=174 then(if s=2 then false else true) else if f=148 then(if s=3 then false else true) else if f=189 then(if s=1 then false else true) else if f=302 then(if s=3 then false else true) else if f=318 then(if s=3 then false else true) else true:=by
 have e0:Qf.mt=mtD:=rfl;have hb:Qof s=s+2000000:=by unfold Qof;rfl
 have e (k:Nat):(s+2000000==k+2000000)=decide (s=k):=by rw[Zq7,beq_iff_eq,decide_eq_true_eq];omega
 have d (a b:Nat):(a==b)=decide (a=b):=by rw[Zq7,beq_iff_eq,decide_eq_true_eq]
 rw[e0,hb];unfold mtD;rw[if_neg (by omega),e 2,e 3,e 1,d f 174,d f 148,d f 189,d f 302,d f 318];by_cases h1:f=174
 . subst h1;by_cases h:s=2<;>simp[h]
 by_cases h2:f=148
 . subst h2;by_cases h:s=3<;>simp[h]
 by_cases h3:f=189
 . subst h3;by_cases h:s=1<;>simp[h]
 by_cases h4:f=302
 . subst h4;by_cases h:s=3<;>simp[h]
 by_cases h5:f=318
 . subst h5;by_cases h:s=3<;>simp[h]
 simp[h1,h2,h3,h4,h5]
theorem Qej{f s:Nat}(h:s<2000000)(hf:mtL f s=false):Qf.mt f s=false:=by have e0:Qf.mt=mtD:=rfl;rw[e0];unfold mtD;rw[if_pos h,hf]
theorem xCnt:Kk Tryz.prog 193 Extern.BytealgCount.count:=⟨Tryz.f193,Tryz.func193,by kernel_rfl,by kernel_rfl,by kernel_rfl,by kernel_rfl⟩
theorem xCmpD:Kk Tryz.prog 504 Extern.BytealgCompare.compare:=⟨Tryz.f504,Tryz.func504,by kernel_rfl,by kernel_rfl,by kernel_rfl,by kernel_rfl⟩
theorem okD:Okay Tryz.prog Qf where
 mixed:=Tryz.checked.mixed
 draws:=fun f F c hF hc=>by have:=Zrm.1 Q6w F (Zsj hF);unfold gD at this;rwa[hc] at this
 loops:=fun f F c hF hc=>by have:=Zrm.1 Q62 F (Zsj hF);unfold gL at this;rw[hc] at this;simpa using this
 num:=fun f F hF hb=>by
  have:=Zrm.1 Zdm F (Zsj hF);unfold gN at this;cases hn:F.body with
  |none=>rw[hn] at hb;cases hb
  |some c=>rw[hn] at this;simpa using this
 prim:=fun f g hg B F H E fr dst args cargs v x S hlt hr h=>by
  by_cases hf:f=193
  . subst hf;have e:Qf.prim 193=some K9:=rfl;rw[e] at hg;cases hg;exact sound_count xCnt S hr h
  . by_cases hc:f=504
    . subst hc;have e:Qf.prim 504=some Kq:=rfl;rw[e] at hg;cases hg;exact sound_compare xCmpD S hr h
    . have e:Qf.prim f=none:=by
       show(if f=_ then _ else if f=_ then _ else none)=none;rw[if_neg hf,if_neg hc]
      rw[e] at hg;cases hg
set_option maxRecDepth 100000
theorem sz3:sz Tryz.prog 3=some 1:=by kernel_rfl
theorem zc3:zeroCells Tryz.prog 3=some [.int .i64 0]:=by kernel_rfl
theorem rd3(cs:List V)(o:Nat):Qr Tryz.prog 3 cs o=cs[o]?:=Qfb Tryz.underlying3 sz3 rfl cs o
theorem sz4:sz Tryz.prog 4=some 1:=by kernel_rfl
theorem sz5:sz Tryz.prog 5=some 1:=by kernel_rfl
theorem zc5:zeroCells Tryz.prog 5=some [.int .u8 0]:=by kernel_rfl
theorem rd5(cs:List V)(o:Nat):Qr Tryz.prog 5 cs o=cs[o]?:=Qfb Tryz.underlying5 sz5 rfl cs o
theorem sz9:sz Tryz.prog 9=some 1:=by kernel_rfl
theorem sz21:sz Tryz.prog 21=some 1:=by kernel_rfl
theorem sz22:sz Tryz.prog 22=some 1:=by kernel_rfl
theorem rd22(cs:List V)(o:Nat):Qr Tryz.prog 22 cs o=cs[o]?:=Qfb Tryz.underlying22 sz22 rfl cs o
theorem Qah:sz Tryz.prog 23=some 1:=by kernel_rfl
theorem Qrt:zeroCells Tryz.prog 23=some [.nS]:=by kernel_rfl
theorem rd23(cs:List V)(o:Nat):Qr Tryz.prog 23 cs o=cs[o]?:=Qfb Tryz.underlying23 Qah rfl cs o
theorem ln23(g:Get)(cs:List V)(len:Nat)(full:Bool):B0 Tryz.prog g 23 (.iS cs len full)=some (.int .i64 len):=Qio Tryz.underlying23 cs len full
theorem sz25:sz Tryz.prog 25=some 2:=by kernel_rfl
theorem zc25:zeroCells Tryz.prog 25=some [.nS,.int .i64 0]:=by kernel_rfl
theorem rd25(cs:List V)(o:Nat):Qr Tryz.prog 25 cs o=if o+2<=cs.length then some (.agg ((cs.drop o).take 2)) else none:=Qef Tryz.underlying25 sz25 rfl cs o
theorem fo25_0:Yg Tryz.prog 25 0=some (0,23):=by kernel_rfl
theorem fo25_1:Yg Tryz.prog 25 1=some (1,3):=by kernel_rfl
theorem bv25(parts:List (Nat×V)):Bl Tryz.prog 25 parts=(B1 (fun i=>([(0,1),(1,1)]:List (Nat×Nat))[i]?) [.nS,.int .i64 0] parts).map .agg:=Qm1 zc25 (by kernel_rfl) parts
theorem sz27:sz Tryz.prog 27=some 4:=by kernel_rfl
theorem zc27:zeroCells Tryz.prog 27=some [.nS,.nS,.nS,.int .i64 0]:=by kernel_rfl
theorem rd27(cs:List V)(o:Nat):Qr Tryz.prog 27 cs o=if o+4<=cs.length then some (.agg ((cs.drop o).take 4)) else none:=Qef Tryz.underlying27 sz27 rfl cs o
theorem fo27_0:Yg Tryz.prog 27 0=some (0,22):=by kernel_rfl
theorem fo27_1:Yg Tryz.prog 27 1=some (1,23):=by kernel_rfl
theorem fo27_2:Yg Tryz.prog 27 2=some (2,25):=by kernel_rfl
theorem bv27(parts:List (Nat×V)):Bl Tryz.prog 27 parts=(B1 (fun i=>([(0,1),(1,1),(2,2)]:List (Nat×Nat))[i]?) [.nS,.nS,.nS,.int .i64 0] parts).map .agg:=Qm1 zc27 (by kernel_rfl) parts
theorem sz30:sz Tryz.prog 30=some 1:=by kernel_rfl
theorem rd30(cs:List V)(o:Nat):Qr Tryz.prog 30 cs o=cs[o]?:=Qfb Tryz.underlying30 sz30 rfl cs o
theorem sz31:sz Tryz.prog 31=some 1:=by kernel_rfl
theorem sz33:sz Tryz.prog 33=some 5:=by kernel_rfl
theorem zc33:zeroCells Tryz.prog 33=some [.int .i64 0,.int .u8 0,.int .i64 0,.int .i64 0,.str []]:=by kernel_rfl
theorem sz34:sz Tryz.prog 34=some 1:=by kernel_rfl
theorem rd34(cs:List V)(o:Nat):Qr Tryz.prog 34 cs o=cs[o]?:=Qfb Tryz.underlying34 sz34 rfl cs o
theorem ln34(g:Get)(cs:List V)(len:Nat)(full:Bool):B0 Tryz.prog g 34 (.iS cs len full)=some (.int .i64 len):=Qio Tryz.underlying34 cs len full
theorem sz36:sz Tryz.prog 36=some 10:=by kernel_rfl
theorem zc36:zeroCells Tryz.prog 36=some [.int .i64 0,.int .i64 0,.nS,.nS,.int .i64 0,.int .u8 0,.int .i64 0,.int .i64 0,.str [],.nS]:=by kernel_rfl
theorem rd36(cs:List V)(o:Nat):Qr Tryz.prog 36 cs o=if o+10<=cs.length then some (.agg ((cs.drop o).take 10)) else none:=Qef Tryz.underlying36 sz36 rfl cs o
theorem fo36_0:Yg Tryz.prog 36 0=some (0,30):=by kernel_rfl
theorem bv36(parts:List (Nat×V)):Bl Tryz.prog 36 parts=(B1 (fun i=>([(0,1),(1,1),(2,1),(3,1),(4,5),(9,1)]:List (Nat×Nat))[i]?) [.int .i64 0,.int .i64 0,.nS,.nS,.int .i64 0,.int .u8 0,.int .i64 0,.int .i64 0,.str [],.nS] parts).map .agg:=Qm1 zc36 (by kernel_rfl) parts
theorem sz40:sz Tryz.prog 40=some 8:=by kernel_rfl
theorem zc40:zeroCells Tryz.prog 40=some [.int .u8 0,.int .i64 0,.int .i64 0,.int .i64 0,.str [],.str [],.str [],.nS]:=by kernel_rfl
theorem sz41:sz Tryz.prog 41=some 1:=by kernel_rfl
theorem sz43:sz Tryz.prog 43=some 13:=by kernel_rfl
theorem zc43:zeroCells Tryz.prog 43=some [.int .u8 0,.int .i64 0,.int .i64 0,.int .i64 0,.int .u8 0,.int .i64 0,.int .i64 0,.int .i64 0,.str [],.str [],.str [],.nS,.nS]:=by kernel_rfl
theorem rd43(cs:List V)(o:Nat):Qr Tryz.prog 43 cs o=if o+13<=cs.length then some (.agg ((cs.drop o).take 13)) else none:=Qef Tryz.underlying43 sz43 rfl cs o
theorem fo43_0:Yg Tryz.prog 43 0=some (0,5):=by kernel_rfl
theorem fo43_2:Yg Tryz.prog 43 2=some (2,3):=by kernel_rfl
theorem fo43_3:Yg Tryz.prog 43 3=some (3,3):=by kernel_rfl
theorem bv43(parts:List (Nat×V)):Bl Tryz.prog 43 parts=(B1 (fun i=>([(0,1),(1,1),(2,1),(3,1),(4,8),(12,1)]:List (Nat×Nat))[i]?) [.int .u8 0,.int .i64 0,.int .i64 0,.int .i64 0,.int .u8 0,.int .i64 0,.int .i64 0,.int .i64 0,.str [],.str [],.str [],.nS,.nS] parts).map .agg:=Qm1 zc43 (by kernel_rfl) parts
theorem sz46:sz Tryz.prog 46=some 1:=by kernel_rfl
theorem sz49:sz Tryz.prog 49=some 1:=by kernel_rfl
theorem sz52:sz Tryz.prog 52=some 1:=by kernel_rfl
theorem zc52:zeroCells Tryz.prog 52=some [.nS]:=by kernel_rfl
theorem rd52(cs:List V)(o:Nat):Qr Tryz.prog 52 cs o=cs[o]?:=Qfb Tryz.underlying52 sz52 rfl cs o
theorem ln52(g:Get)(cs:List V)(len:Nat)(full:Bool):B0 Tryz.prog g 52 (.iS cs len full)=some (.int .i64 len):=Qio Tryz.underlying52 cs len full
theorem sz53:sz Tryz.prog 53=some 1:=by kernel_rfl
theorem rd53(cs:List V)(o:Nat):Qr Tryz.prog 53 cs o=cs[o]?:=Qfb Tryz.underlying53 sz53 rfl cs o
theorem sz55:sz Tryz.prog 55=some 2:=by kernel_rfl
theorem zc55:zeroCells Tryz.prog 55=some [.nS,.nS]:=by kernel_rfl
theorem rd55(cs:List V)(o:Nat):Qr Tryz.prog 55 cs o=if o+2<=cs.length then some (.agg ((cs.drop o).take 2)) else none:=Qef Tryz.underlying55 sz55 rfl cs o
theorem fo55_0:Yg Tryz.prog 55 0=some (0,52):=by kernel_rfl
theorem fo55_1:Yg Tryz.prog 55 1=some (1,53):=by kernel_rfl
theorem bv55(parts:List (Nat×V)):Bl Tryz.prog 55 parts=(B1 (fun i=>([(0,1),(1,1)]:List (Nat×Nat))[i]?) [.nS,.nS] parts).map .agg:=Qm1 zc55 (by kernel_rfl) parts
theorem Qw2:sz Tryz.prog 56=some 1:=by kernel_rfl
theorem rd56(cs:List V)(o:Nat):Qr Tryz.prog 56 cs o=cs[o]?:=Qfb Tryz.underlying56 Qw2 rfl cs o
theorem sz58:sz Tryz.prog 58=some 5:=by kernel_rfl
theorem zc58:zeroCells Tryz.prog 58=some [.nS,.nS,.nS,.int .u32 0,.int .u32 0]:=by kernel_rfl
theorem rd58(cs:List V)(o:Nat):Qr Tryz.prog 58 cs o=if o+5<=cs.length then some (.agg ((cs.drop o).take 5)) else none:=Qef Tryz.underlying58 sz58 rfl cs o
theorem fo58_0:Yg Tryz.prog 58 0=some (0,55):=by kernel_rfl
theorem fo58_1:Yg Tryz.prog 58 1=some (2,23):=by kernel_rfl
theorem fo58_2:Yg Tryz.prog 58 2=some (3,56):=by kernel_rfl
theorem fo58_3:Yg Tryz.prog 58 3=some (4,56):=by kernel_rfl
theorem Qyc:sz Tryz.prog 60=some 5:=by kernel_rfl
theorem zc60:zeroCells Tryz.prog 60=some [.int .i64 0,.int .u32 0,.int .u32 0,.int .u32 0,.int .u32 0]:=by kernel_rfl
theorem rd60(cs:List V)(o:Nat):Qr Tryz.prog 60 cs o=if o+5<=cs.length then some (.agg ((cs.drop o).take 5)) else none:=Qef Tryz.underlying60 Qyc rfl cs o
theorem fo60_0:Yg Tryz.prog 60 0=some (0,3):=by kernel_rfl
theorem fo60_1:Yg Tryz.prog 60 1=some (1,56):=by kernel_rfl
theorem bv60(parts:List (Nat×V)):Bl Tryz.prog 60 parts=(B1 (fun i=>([(0,1),(1,1),(2,1),(3,1),(4,1)]:List (Nat×Nat))[i]?) [.int .i64 0,.int .u32 0,.int .u32 0,.int .u32 0,.int .u32 0] parts).map .agg:=Qm1 zc60 (by kernel_rfl) parts
theorem sz61:sz Tryz.prog 61=some 1:=by kernel_rfl
theorem Qr1(cs:List V)(o:Nat):Qr Tryz.prog 61 cs o=cs[o]?:=Qfb Tryz.underlying61 sz61 rfl cs o
theorem sz62:sz Tryz.prog 62=some 1:=by kernel_rfl
theorem Qzi(cs:List V)(o:Nat):Qr Tryz.prog 62 cs o=cs[o]?:=Qfb Tryz.underlying62 sz62 rfl cs o
theorem Qs6:sz Tryz.prog 64=some 19:=by kernel_rfl
theorem zc64:zeroCells Tryz.prog 64=some [.nS,.nS,.nS,.int .u32 0,.int .u32 0,.int .u32 0,.int .i64 0,.int .u32 0,.int .u32 0,.int .u32 0,.int .u32 0,.nS,.nS,.nS,.nS,.nS,.int .i64 0,.int .i64 0,.int .u32 0]:=by kernel_rfl
theorem rd64(cs:List V)(o:Nat):Qr Tryz.prog 64 cs o=if o+19<=cs.length then some (.agg ((cs.drop o).take 19)) else none:=Qef Tryz.underlying64 Qs6 rfl cs o
theorem fo64_0:Yg Tryz.prog 64 0=some (0,58):=by kernel_rfl
theorem fo64_1:Yg Tryz.prog 64 1=some (5,56):=by kernel_rfl
theorem fo64_2:Yg Tryz.prog 64 2=some (6,60):=by kernel_rfl
theorem fo64_3:Yg Tryz.prog 64 3=some (11,34):=by kernel_rfl
theorem fo64_4:Yg Tryz.prog 64 4=some (12,61):=by kernel_rfl
theorem fo64_5:Yg Tryz.prog 64 5=some (13,52):=by kernel_rfl
theorem fo64_6:Yg Tryz.prog 64 6=some (14,52):=by kernel_rfl
theorem fo64_7:Yg Tryz.prog 64 7=some (15,62):=by kernel_rfl
theorem fo64_8:Yg Tryz.prog 64 8=some (16,3):=by kernel_rfl
theorem fo64_9:Yg Tryz.prog 64 9=some (17,3):=by kernel_rfl
theorem Zcq:Yg Tryz.prog 64 10=some (18,56):=by kernel_rfl
theorem sz67:sz Tryz.prog 67=some 4:=by kernel_rfl
theorem zc67:zeroCells Tryz.prog 67=some [.nS,.nS,.nS,.int .i64 0]:=by kernel_rfl
theorem fo67_0:Yg Tryz.prog 67 0=some (0,27):=by kernel_rfl
theorem bv67(parts:List (Nat×V)):Bl Tryz.prog 67 parts=(B1 (fun i=>([(0,4)]:List (Nat×Nat))[i]?) [.nS,.nS,.nS,.int .i64 0] parts).map .agg:=Qm1 zc67 (by kernel_rfl) parts
theorem sz68:sz Tryz.prog 68=some 1:=by kernel_rfl
theorem sz70:sz Tryz.prog 70=some 1:=by kernel_rfl
theorem rd70(cs:List V)(o:Nat):Qr Tryz.prog 70 cs o=cs[o]?:=Qfb Tryz.underlying70 sz70 rfl cs o
theorem sz71:sz Tryz.prog 71=some 9:=by kernel_rfl
theorem zc71:zeroCells Tryz.prog 71=some [.nF,.nF,.nF,.nF,.nF,.nF,.nF,.nF,.nF]:=by kernel_rfl
theorem rd71(cs:List V)(o:Nat):Qr Tryz.prog 71 cs o=if o+9<=cs.length then some (.agg ((cs.drop o).take 9)) else none:=Qef Tryz.underlying71 sz71 rfl cs o
theorem sz80:sz Tryz.prog 80=some 1:=by kernel_rfl
theorem rd80(cs:List V)(o:Nat):Qr Tryz.prog 80 cs o=cs[o]?:=Qfb Tryz.underlying80 sz80 rfl cs o
theorem Qjg:sz Tryz.prog 82=some 13:=by kernel_rfl
theorem zc82:zeroCells Tryz.prog 82=some [.int .i64 0,.int .u8 0,.int .i64 0,.int .i64 0,.int .u32 0,.int .u32 0,.int .i64 0,.int .i64 0,.int .u32 0,.int .u32 0,.int .u32 0,.int .u32 0,.nS]:=by kernel_rfl
theorem rd82(cs:List V)(o:Nat):Qr Tryz.prog 82 cs o=if o+13<=cs.length then some (.agg ((cs.drop o).take 13)) else none:=Qef Tryz.underlying82 Qjg rfl cs o
theorem fo82_0:Yg Tryz.prog 82 0=some (0,3):=by kernel_rfl
theorem fo82_1:Yg Tryz.prog 82 1=some (1,5):=by kernel_rfl
theorem fo82_2:Yg Tryz.prog 82 2=some (2,3):=by kernel_rfl
theorem fo82_3:Yg Tryz.prog 82 3=some (3,3):=by kernel_rfl
theorem fo82_4:Yg Tryz.prog 82 4=some (4,56):=by kernel_rfl
theorem fo82_5:Yg Tryz.prog 82 5=some (5,56):=by kernel_rfl
theorem fo82_6:Yg Tryz.prog 82 6=some (6,3):=by kernel_rfl
theorem fo82_7:Yg Tryz.prog 82 7=some (7,60):=by kernel_rfl
theorem fo82_8:Yg Tryz.prog 82 8=some (12,80):=by kernel_rfl
theorem Qsq:sz Tryz.prog 84=some 12:=by kernel_rfl
theorem zc84:zeroCells Tryz.prog 84=some [.int .i64 0,.int .i64 0,.int .i64 0,.int .u8 0,.int .i64 0,.int .i64 0,.nS,.int .i64 0,.int .u32 0,.int .u32 0,.int .u32 0,.int .u32 0]:=by kernel_rfl
theorem rd84(cs:List V)(o:Nat):Qr Tryz.prog 84 cs o=if o+12<=cs.length then some (.agg ((cs.drop o).take 12)) else none:=Qef Tryz.underlying84 Qsq rfl cs o
theorem fo84_0:Yg Tryz.prog 84 0=some (0,3):=by kernel_rfl
theorem fo84_1:Yg Tryz.prog 84 1=some (1,3):=by kernel_rfl
theorem fo84_2:Yg Tryz.prog 84 2=some (2,3):=by kernel_rfl
theorem fo84_3:Yg Tryz.prog 84 3=some (3,5):=by kernel_rfl
theorem fo84_4:Yg Tryz.prog 84 4=some (4,3):=by kernel_rfl
theorem fo84_5:Yg Tryz.prog 84 5=some (5,3):=by kernel_rfl
theorem fo84_6:Yg Tryz.prog 84 6=some (6,23):=by kernel_rfl
theorem fo84_7:Yg Tryz.prog 84 7=some (7,60):=by kernel_rfl
theorem sz101:sz Tryz.prog 101=some 1:=by kernel_rfl
theorem sz103:sz Tryz.prog 103=some 1:=by kernel_rfl
theorem sz106:sz Tryz.prog 106=some 1:=by kernel_rfl
theorem sz113:sz Tryz.prog 113=some 1:=by kernel_rfl
theorem Qdq:sz Tryz.prog 134=some 2:=by kernel_rfl
theorem Qui:zeroCells Tryz.prog 134=some [.int .i64 0,.nS]:=by kernel_rfl
theorem Qtg(cs:List V)(o:Nat):Qr Tryz.prog 134 cs o=if o+2<=cs.length then some (.agg ((cs.drop o).take 2)) else none:=Qef Tryz.underlying134 Qdq rfl cs o
theorem Zd8:Yg Tryz.prog 134 0=some (0,3):=by kernel_rfl
theorem Zcp:Yg Tryz.prog 134 1=some (1,23):=by kernel_rfl
theorem bv134(parts:List (Nat×V)):Bl Tryz.prog 134 parts=(B1 (fun i=>([(0,1),(1,1)]:List (Nat×Nat))[i]?) [.int .i64 0,.nS] parts).map .agg:=Qm1 Qui (by kernel_rfl) parts
theorem sz140:sz Tryz.prog 140=some 1:=by kernel_rfl
theorem sz145:sz Tryz.prog 145=some 1:=by kernel_rfl
theorem sz179:sz Tryz.prog 179=some 4:=by kernel_rfl
theorem zc179:zeroCells Tryz.prog 179=some [.int .u8 0,.int .i64 0,.int .i64 0,.nS]:=by kernel_rfl
theorem sz192:sz Tryz.prog 192=some 1:=by kernel_rfl
theorem sz197:sz Tryz.prog 197=some 1:=by kernel_rfl
theorem sz213:sz Tryz.prog 213=some 1:=by kernel_rfl
theorem sz248:sz Tryz.prog 248=some 1:=by kernel_rfl
theorem sz258:sz Tryz.prog 258=some 16:=by kernel_rfl
theorem sz259:sz Tryz.prog 259=some 12:=by kernel_rfl
theorem sz285:sz Tryz.prog 285=some 1:=by kernel_rfl
theorem sz288:sz Tryz.prog 288=some 22:=by kernel_rfl
theorem zc288:zeroCells Tryz.prog 288=some [.nS,.nS,.nS,.int .u32 0,.int .u32 0,.int .u32 0,.int .i64 0,.int .u32 0,.int .u32 0,.int .u32 0,.int .u32 0,.nS,.nS,.nS,.nS,.nS,.int .i64 0,.int .i64 0,.int .u32 0,.int .i64 0,.int .i64 0,.int .i64 0]:=by kernel_rfl
theorem sz290:sz Tryz.prog 290=some 1:=by kernel_rfl
theorem sz312:sz Tryz.prog 312=some 2:=by kernel_rfl
theorem zc312:zeroCells Tryz.prog 312=some [.str [],.int .i64 0]:=by kernel_rfl
theorem sz313:sz Tryz.prog 313=some 1:=by kernel_rfl
theorem sz351:sz Tryz.prog 351=some 4:=by kernel_rfl
theorem zc351:zeroCells Tryz.prog 351=some [.int .u32 0,.int .u32 0,.int .u32 0,.int .u32 0]:=by kernel_rfl
theorem rd351(cs:List V)(o:Nat):Qr Tryz.prog 351 cs o=if o+4<=cs.length then some (.agg ((cs.drop o).take 4)) else none:=Qef Tryz.underlying351 sz351 rfl cs o
theorem sz353:sz Tryz.prog 353=some 5:=by kernel_rfl
theorem sz395:sz Tryz.prog 395=some 1:=by kernel_rfl
theorem sz417:sz Tryz.prog 417=some 3:=by kernel_rfl
theorem zc417:zeroCells Tryz.prog 417=some [.int .i64 0,.int .i64 0,.int .i64 0]:=by kernel_rfl
theorem sz454:sz Tryz.prog 454=some 2:=by kernel_rfl
theorem zc454:zeroCells Tryz.prog 454=some [.int .i64 0,.int .i64 0]:=by kernel_rfl
theorem Zdx:Yg Tryz.prog 454 0=some (0,3):=by kernel_rfl
theorem Zei:Yg Tryz.prog 454 1=some (1,3):=by kernel_rfl
theorem sz455:sz Tryz.prog 455=some 16:=by kernel_rfl
theorem zc455:zeroCells Tryz.prog 455=some [.int .u8 0,.int .u8 0,.int .u8 0,.int .u8 0,.int .u8 0,.int .u8 0,.int .u8 0,.int .u8 0,.int .u8 0,.int .u8 0,.int .u8 0,.int .u8 0,.int .u8 0,.int .u8 0,.int .u8 0,.int .u8 0]:=by kernel_rfl
theorem rd455(cs:List V)(o:Nat):Qr Tryz.prog 455 cs o=if o+16<=cs.length then some (.agg ((cs.drop o).take 16)) else none:=Qef Tryz.underlying455 sz455 rfl cs o
theorem sz473:sz Tryz.prog 473=some 1:=by kernel_rfl
theorem sz507:sz Tryz.prog 507=some 1:=by kernel_rfl
theorem sz549:sz Tryz.prog 549=some 1:=by kernel_rfl
abbrev ta:=ai @Zaz<|ai @sz3<|ai @zc3<|ai @rd3<|ai @sz5<|ai @zc5<|ai @rd5<|ai @sz22<|ai @rd22<|ai @Qah<|ai @Qrt<|ai @rd23<|ai @ln23<|ai @rd25<|ai @fo25_0<|ai @fo25_1<|ai @bv25<|ai @sz27<|ai @zc27<|ai @rd27<|ai @fo27_0<|ai @fo27_1<|ai @fo27_2<|ai @bv27<|ai @sz30<|ai @rd30<|ai @sz34<|ai @rd34<|ai @ln34<|ai @sz36<|ai @zc36<|ai @rd36<|ai @fo36_0<|ai @bv36<|ai @rd43<|ai @fo43_0<|ai @fo43_2<|ai @fo43_3<|ai @bv43<|ai @sz52<|ai @rd52<|ai @ln52<|ai @sz53<|ai @rd53<|ai @sz55<|ai @zc55<|ai @rd55<|ai @fo55_0<|ai @fo55_1<|ai @bv55<|ai @Qw2<|ai @rd56<|ai @sz58<|ai @zc58<|ai @rd58<|ai @fo58_0<|ai @fo58_1<|ai @fo58_2<|ai @fo58_3<|ai @Qyc<|ai @zc60<|ai @rd60<|ai @fo60_0<|ai @fo60_1<|ai @bv60<|ai @sz61<|ai @Qr1<|ai @sz62<|ai @Qzi<|ai @Qs6<|ai @zc64<|ai @rd64<|ai @fo64_0<|ai @fo64_1<|ai @fo64_2<|ai @fo64_3<|ai @fo64_4<|ai @fo64_5<|ai @fo64_6<|ai @fo64_7<|ai @fo64_8<|ai @fo64_9<|ai @Zcq<|ai @fo67_0<|ai @bv67<|ai @rd70<|ai @sz71<|ai @zc71<|ai @sz80<|ai @rd80<|ai @Qjg<|ai @zc82<|ai @rd82<|ai @fo82_0<|ai @fo82_1<|ai @fo82_2<|ai @fo82_3<|ai @fo82_4<|ai @fo82_5<|ai @fo82_6<|ai @fo82_7<|ai @fo82_8<|ai @Qsq<|ai @zc84<|ai @rd84<|ai @fo84_0<|ai @fo84_1<|ai @fo84_2<|ai @fo84_3<|ai @fo84_4<|ai @fo84_5<|ai @fo84_6<|ai @fo84_7<|ai @Qdq<|ai @Qui<|ai @Qtg<|ai @Zd8<|ai @Zcp<|ai @bv134<|ai @sz351<|ai @zc351<|ai @rd351<|ai @Zdx<|ai @Zei<|ai @sz455<|ai @zc455<| @rd455
abbrev wX:=ai wA<|ai wH<|ai wB ta
noncomputable abbrev Tp:=Tryz.prog
abbrev Zu0:=@Tryz.underlying23
abbrev Zu1:=@Tryz.underlying52
abbrev Zu2:=@Tryz.underlying34
abbrev Zu3:=@Tryz.underlying3
abbrev Zu4:=@Tryz.underlying53
abbrev Zu5:=@Tryz.underlying61
abbrev Zu6:=@Tryz.underlying22
abbrev Zu7:=@Tryz.underlying62
abbrev Zu8:=@Tryz.underlying80
abbrev Zu9:=@Tryz.underlying56
abbrev Zu10:=@Tryz.underlying5
abbrev Zu11:=@Tryz.underlying197
abbrev Zu12:=@Tryz.underlying351
def Zaw(v1 v2 v3 v8 v12:V):List V:=[.bad,v1,v2,v3,.bad,.bad,.bad,.bad,v8,.bad,.bad,.bad,v12,.bad,.bad,.bad,.bad,.bad,.bad,.bad,.bad,.bad,.bad,.bad,.bad,.bad,.bad,.bad,.bad,.bad,.bad,.bad,.bad,.bad,.bad,.bad,.bad,.bad,.bad,.bad,.bad,.bad,.bad,.bad,.bad,.bad,.bad,.bad,.bad,.bad,.bad,.bad,.bad,.bad,.bad,.bad,.bad,.bad,.bad,.bad,.bad,.bad,.bad,.bad,.bad,.bad,.bad,.bad,.bad,.bad,.bad,.bad,.bad,.bad,.bad,.bad,.bad,.bad,.bad,.bad,.bad,.bad,.bad,.bad,.bad,.bad,.bad,.bad,.bad]
def st5_2(v1 v3:V):List V:=[.bad,v1,.bad,v3,.bad,.bad,.bad,.bad,.bad,.bad,.bad,.bad,.bad,.bad,.bad,.bad,.bad,.bad,.bad,.bad,.bad,.bad,.bad,.bad,.bad,.bad,.bad,.bad,.bad,.bad,.bad,.bad,.bad,.bad,.bad,.bad,.bad,.bad]
def st7_4(v2 v3 v5:V):List V:=[.bad,.bad,v2,v3,.bad,v5,.bad,.bad,.bad,.bad,.bad,.bad,.bad,.bad,.bad,.bad,.bad,.bad,.bad,.bad,.bad,.bad,.bad,.bad,.bad,.bad,.bad,.bad,.bad,.bad,.bad,.bad,.bad,.bad,.bad,.bad,.bad,.bad,.bad,.bad,.bad,.bad,.bad,.bad,.bad,.bad,.bad,.bad,.bad]
def Q9m(v1 v3 v4:V):List V:=[.bad,v1,.bad,v3,v4,.bad,.bad,.bad,.bad,.bad,.bad,.bad,.bad,.bad,.bad,.bad,.bad,.bad,.bad,.bad,.bad,.bad,.bad,.bad,.bad,.bad,.bad,.bad,.bad,.bad,.bad,.bad,.bad,.bad,.bad,.bad,.bad,.bad,.bad,.bad,.bad,.bad,.bad,.bad,.bad,.bad,.bad,.bad,.bad,.bad,.bad,.bad,.bad,.bad,.bad,.bad,.bad,.bad,.bad,.bad,.bad,.bad,.bad,.bad,.bad,.bad,.bad,.bad,.bad,.bad,.bad,.bad,.bad,.bad,.bad,.bad,.bad,.bad,.bad,.bad,.bad,.bad,.bad,.bad,.bad,.bad,.bad,.bad,.bad,.bad,.bad,.bad,.bad,.bad,.bad,.bad,.bad,.bad,.bad,.bad,.bad,.bad,.bad,.bad,.bad]
def Q7h(v1 v3 v5:V):List V:=[.bad,v1,.bad,v3,.bad,v5,.bad,.bad,.bad,.bad,.bad,.bad,.bad,.bad,.bad,.bad,.bad,.bad,.bad,.bad,.bad,.bad,.bad,.bad,.bad,.bad,.bad,.bad,.bad,.bad,.bad,.bad,.bad,.bad,.bad,.bad,.bad,.bad,.bad,.bad,.bad,.bad,.bad,.bad,.bad,.bad,.bad,.bad,.bad,.bad,.bad,.bad,.bad,.bad,.bad,.bad,.bad,.bad,.bad,.bad,.bad,.bad,.bad,.bad,.bad,.bad,.bad,.bad,.bad,.bad,.bad,.bad,.bad,.bad,.bad,.bad,.bad,.bad,.bad,.bad,.bad,.bad,.bad,.bad,.bad,.bad,.bad,.bad,.bad,.bad,.bad,.bad,.bad,.bad,.bad,.bad,.bad,.bad,.bad,.bad,.bad,.bad,.bad,.bad,.bad]
def Q4a(v1 v3 v6:V):List V:=[.bad,v1,.bad,v3,.bad,.bad,v6,.bad,.bad,.bad,.bad,.bad,.bad,.bad,.bad,.bad,.bad,.bad,.bad,.bad,.bad,.bad,.bad,.bad,.bad,.bad,.bad,.bad,.bad,.bad,.bad,.bad,.bad,.bad,.bad,.bad,.bad,.bad,.bad,.bad,.bad,.bad,.bad,.bad,.bad,.bad,.bad,.bad,.bad,.bad,.bad,.bad,.bad,.bad,.bad,.bad,.bad,.bad,.bad,.bad,.bad,.bad,.bad,.bad,.bad,.bad,.bad,.bad,.bad,.bad,.bad,.bad,.bad,.bad,.bad,.bad,.bad,.bad,.bad,.bad,.bad,.bad,.bad,.bad,.bad,.bad,.bad,.bad,.bad,.bad,.bad,.bad,.bad,.bad,.bad,.bad,.bad,.bad,.bad,.bad,.bad,.bad,.bad,.bad,.bad]
def Q29(v1 v3 v7:V):List V:=[.bad,v1,.bad,v3,.bad,.bad,.bad,v7,.bad,.bad,.bad,.bad,.bad,.bad,.bad,.bad,.bad,.bad,.bad,.bad,.bad,.bad,.bad,.bad,.bad,.bad,.bad,.bad,.bad,.bad,.bad,.bad,.bad,.bad,.bad,.bad,.bad,.bad,.bad,.bad,.bad,.bad,.bad,.bad,.bad,.bad,.bad,.bad,.bad,.bad,.bad,.bad,.bad,.bad,.bad,.bad,.bad,.bad,.bad,.bad,.bad,.bad,.bad,.bad,.bad,.bad,.bad,.bad,.bad,.bad,.bad,.bad,.bad,.bad,.bad,.bad,.bad,.bad,.bad,.bad,.bad,.bad,.bad,.bad,.bad,.bad,.bad,.bad,.bad,.bad,.bad,.bad,.bad,.bad,.bad,.bad,.bad,.bad,.bad,.bad,.bad,.bad,.bad,.bad,.bad]
def Q2d(v35 v36 v37:V):List V:=[.bad,.bad,.bad,.bad,.bad,.bad,.bad,.bad,.bad,.bad,.bad,.bad,.bad,.bad,.bad,.bad,.bad,.bad,.bad,.bad,.bad,.bad,.bad,.bad,.bad,.bad,.bad,.bad,.bad,.bad,.bad,.bad,.bad,.bad,.bad,v35,v36,v37,.bad,.bad,.bad,.bad,.bad,.bad,.bad]
def Qmu(v3 v21 v22 v23:V):List V:=[.bad,.bad,.bad,v3,.bad,.bad,.bad,.bad,.bad,.bad,.bad,.bad,.bad,.bad,.bad,.bad,.bad,.bad,.bad,.bad,.bad,v21,v22,v23,.bad,.bad,.bad,.bad,.bad,.bad,.bad,.bad,.bad,.bad,.bad,.bad,.bad,.bad,.bad,.bad,.bad,.bad]
def Q89(v2 v3 v5:V):List V:=[.bad,.bad,v2,v3,.bad,v5,.bad,.bad,.bad,.bad,.bad,.bad,.bad,.bad,.bad,.bad,.bad,.bad,.bad,.bad,.bad,.bad,.bad,.bad,.bad,.bad,.bad,.bad,.bad,.bad,.bad,.bad,.bad,.bad,.bad,.bad,.bad,.bad,.bad,.bad,.bad,.bad,.bad,.bad,.bad,.bad,.bad,.bad,.bad,.bad,.bad,.bad,.bad,.bad,.bad,.bad,.bad,.bad,.bad,.bad,.bad,.bad,.bad,.bad,.bad,.bad,.bad,.bad,.bad,.bad,.bad,.bad,.bad,.bad,.bad,.bad,.bad,.bad,.bad,.bad,.bad,.bad,.bad,.bad,.bad,.bad,.bad,.bad,.bad,.bad,.bad,.bad,.bad,.bad,.bad,.bad,.bad,.bad,.bad,.bad,.bad,.bad,.bad,.bad,.bad,.bad,.bad,.bad,.bad,.bad,.bad,.bad,.bad,.bad,.bad,.bad,.bad,.bad,.bad,.bad,.bad,.bad,.bad,.bad]
def Q7n(v2 v3 v6:V):List V:=[.bad,.bad,v2,v3,.bad,.bad,v6,.bad,.bad,.bad,.bad,.bad,.bad,.bad,.bad,.bad,.bad,.bad,.bad,.bad,.bad,.bad,.bad,.bad,.bad,.bad,.bad,.bad,.bad,.bad,.bad,.bad,.bad,.bad,.bad,.bad,.bad,.bad,.bad,.bad,.bad,.bad,.bad,.bad,.bad,.bad,.bad,.bad,.bad,.bad,.bad,.bad,.bad,.bad,.bad,.bad,.bad,.bad,.bad,.bad,.bad,.bad,.bad,.bad,.bad,.bad,.bad,.bad,.bad,.bad,.bad,.bad,.bad,.bad,.bad,.bad,.bad,.bad,.bad,.bad,.bad,.bad,.bad,.bad,.bad,.bad,.bad,.bad,.bad,.bad,.bad,.bad,.bad,.bad,.bad,.bad,.bad,.bad,.bad,.bad,.bad,.bad,.bad,.bad,.bad,.bad,.bad,.bad,.bad,.bad,.bad,.bad,.bad,.bad,.bad,.bad,.bad,.bad,.bad,.bad,.bad,.bad,.bad,.bad]
def Q8k(v1 v34 v35 v36:V):List V:=[.bad,v1,.bad,.bad,.bad,.bad,.bad,.bad,.bad,.bad,.bad,.bad,.bad,.bad,.bad,.bad,.bad,.bad,.bad,.bad,.bad,.bad,.bad,.bad,.bad,.bad,.bad,.bad,.bad,.bad,.bad,.bad,.bad,.bad,v34,v35,v36,.bad,.bad,.bad,.bad,.bad,.bad,.bad,.bad,.bad,.bad,.bad,.bad,.bad,.bad,.bad,.bad,.bad,.bad,.bad,.bad,.bad,.bad,.bad,.bad,.bad,.bad,.bad,.bad,.bad,.bad,.bad,.bad,.bad,.bad,.bad,.bad,.bad,.bad,.bad,.bad,.bad,.bad,.bad,.bad,.bad,.bad,.bad,.bad,.bad,.bad,.bad,.bad,.bad,.bad,.bad,.bad,.bad,.bad,.bad,.bad,.bad,.bad,.bad,.bad,.bad,.bad,.bad,.bad,.bad,.bad,.bad,.bad,.bad,.bad,.bad,.bad,.bad,.bad,.bad,.bad,.bad,.bad,.bad,.bad,.bad,.bad,.bad,.bad,.bad,.bad,.bad,.bad,.bad,.bad,.bad,.bad,.bad,.bad,.bad,.bad,.bad,.bad,.bad,.bad,.bad,.bad,.bad,.bad,.bad,.bad,.bad,.bad,.bad,.bad,.bad,.bad,.bad]
def Qvb(v1 v108 v109 v110:V):List V:=[.bad,v1,.bad,.bad,.bad,.bad,.bad,.bad,.bad,.bad,.bad,.bad,.bad,.bad,.bad,.bad,.bad,.bad,.bad,.bad,.bad,.bad,.bad,.bad,.bad,.bad,.bad,.bad,.bad,.bad,.bad,.bad,.bad,.bad,.bad,.bad,.bad,.bad,.bad,.bad,.bad,.bad,.bad,.bad,.bad,.bad,.bad,.bad,.bad,.bad,.bad,.bad,.bad,.bad,.bad,.bad,.bad,.bad,.bad,.bad,.bad,.bad,.bad,.bad,.bad,.bad,.bad,.bad,.bad,.bad,.bad,.bad,.bad,.bad,.bad,.bad,.bad,.bad,.bad,.bad,.bad,.bad,.bad,.bad,.bad,.bad,.bad,.bad,.bad,.bad,.bad,.bad,.bad,.bad,.bad,.bad,.bad,.bad,.bad,.bad,.bad,.bad,.bad,.bad,.bad,.bad,.bad,.bad,v108,v109,v110,.bad,.bad,.bad,.bad,.bad,.bad,.bad,.bad,.bad,.bad,.bad,.bad,.bad,.bad,.bad,.bad,.bad,.bad,.bad,.bad,.bad,.bad,.bad,.bad,.bad,.bad,.bad,.bad,.bad,.bad,.bad,.bad,.bad,.bad,.bad,.bad,.bad,.bad,.bad,.bad,.bad,.bad,.bad]
def Q8c(v1 v2 v27 v28:V):List V:=[.bad,v1,v2,.bad,.bad,.bad,.bad,.bad,.bad,.bad,.bad,.bad,.bad,.bad,.bad,.bad,.bad,.bad,.bad,.bad,.bad,.bad,.bad,.bad,.bad,.bad,.bad,v27,v28,.bad,.bad,.bad,.bad,.bad,.bad,.bad,.bad,.bad,.bad,.bad,.bad,.bad,.bad,.bad,.bad,.bad,.bad,.bad,.bad,.bad,.bad,.bad,.bad,.bad,.bad,.bad,.bad,.bad,.bad,.bad,.bad,.bad,.bad,.bad,.bad,.bad,.bad,.bad,.bad,.bad,.bad,.bad,.bad,.bad,.bad,.bad,.bad,.bad,.bad,.bad,.bad,.bad,.bad,.bad,.bad,.bad,.bad,.bad,.bad,.bad,.bad,.bad,.bad,.bad,.bad,.bad]
def Zau(v1 v2 v46 v47:V):List V:=[.bad,v1,v2,.bad,.bad,.bad,.bad,.bad,.bad,.bad,.bad,.bad,.bad,.bad,.bad,.bad,.bad,.bad,.bad,.bad,.bad,.bad,.bad,.bad,.bad,.bad,.bad,.bad,.bad,.bad,.bad,.bad,.bad,.bad,.bad,.bad,.bad,.bad,.bad,.bad,.bad,.bad,.bad,.bad,.bad,.bad,v46,v47,.bad,.bad,.bad,.bad,.bad,.bad,.bad,.bad,.bad,.bad,.bad,.bad,.bad,.bad,.bad,.bad,.bad,.bad,.bad,.bad,.bad,.bad,.bad,.bad,.bad,.bad,.bad,.bad,.bad,.bad,.bad,.bad,.bad,.bad,.bad,.bad,.bad,.bad,.bad,.bad,.bad,.bad,.bad,.bad,.bad,.bad,.bad,.bad]
def Q3x(v1 v2 v75 v76 v77:V):List V:=[.bad,v1,v2,.bad,.bad,.bad,.bad,.bad,.bad,.bad,.bad,.bad,.bad,.bad,.bad,.bad,.bad,.bad,.bad,.bad,.bad,.bad,.bad,.bad,.bad,.bad,.bad,.bad,.bad,.bad,.bad,.bad,.bad,.bad,.bad,.bad,.bad,.bad,.bad,.bad,.bad,.bad,.bad,.bad,.bad,.bad,.bad,.bad,.bad,.bad,.bad,.bad,.bad,.bad,.bad,.bad,.bad,.bad,.bad,.bad,.bad,.bad,.bad,.bad,.bad,.bad,.bad,.bad,.bad,.bad,.bad,.bad,.bad,.bad,.bad,v75,v76,v77,.bad,.bad,.bad,.bad,.bad,.bad,.bad,.bad,.bad,.bad,.bad,.bad,.bad,.bad,.bad,.bad,.bad,.bad]
def Qob(v1 v2 v6 v75 v76 v77 v81 v82 v83:V):List V:=[.bad,v1,v2,.bad,.bad,.bad,v6,.bad,.bad,.bad,.bad,.bad,.bad,.bad,.bad,.bad,.bad,.bad,.bad,.bad,.bad,.bad,.bad,.bad,.bad,.bad,.bad,.bad,.bad,.bad,.bad,.bad,.bad,.bad,.bad,.bad,.bad,.bad,.bad,.bad,.bad,.bad,.bad,.bad,.bad,.bad,.bad,.bad,.bad,.bad,.bad,.bad,.bad,.bad,.bad,.bad,.bad,.bad,.bad,.bad,.bad,.bad,.bad,.bad,.bad,.bad,.bad,.bad,.bad,.bad,.bad,.bad,.bad,.bad,.bad,v75,v76,v77,.bad,.bad,.bad,v81,v82,v83,.bad,.bad,.bad,.bad,.bad,.bad,.bad,.bad,.bad,.bad,.bad,.bad]
def Q9q(v0 v1 v5:V):List V:=[v0,v1,.bad,.bad,.bad,v5,.bad,.bad,.bad,.bad,.bad,.bad,.bad,.bad,.bad,.bad,.bad,.bad,.bad,.bad,.bad,.bad,.bad,.bad,.bad,.bad]
def Q9n(v0 v1 v5:V):List V:=[v0,v1,.bad,.bad,.bad,v5,.bad,.bad,.bad,.bad,.bad,.bad,.bad,.bad,.bad,.bad,.bad,.bad,.bad,.bad,.bad,.bad,.bad,.bad,.bad,.bad,.bad,.bad]
def Q9e(v1 v3 v4:V):List V:=[.bad,v1,.bad,v3,v4,.bad,.bad,.bad,.bad,.bad,.bad,.bad,.bad,.bad,.bad,.bad,.bad,.bad,.bad,.bad,.bad,.bad,.bad,.bad,.bad,.bad,.bad,.bad,.bad,.bad,.bad,.bad,.bad,.bad,.bad,.bad,.bad,.bad,.bad,.bad,.bad,.bad,.bad,.bad,.bad,.bad,.bad,.bad,.bad,.bad,.bad,.bad,.bad,.bad,.bad,.bad,.bad,.bad,.bad,.bad,.bad,.bad,.bad,.bad,.bad,.bad,.bad,.bad,.bad]
def Qvp(v1 v3 v5:V):List V:=[.bad,v1,.bad,v3,.bad,v5,.bad,.bad,.bad,.bad,.bad,.bad,.bad,.bad,.bad,.bad,.bad,.bad,.bad,.bad,.bad,.bad,.bad,.bad,.bad,.bad,.bad,.bad,.bad,.bad,.bad,.bad,.bad,.bad,.bad,.bad,.bad,.bad,.bad,.bad,.bad,.bad,.bad,.bad,.bad,.bad,.bad,.bad,.bad,.bad,.bad,.bad,.bad,.bad,.bad,.bad,.bad,.bad,.bad,.bad,.bad,.bad,.bad,.bad,.bad,.bad,.bad,.bad,.bad]
def Q20(v0 v10 v11 v12:V):List V:=[v0,.bad,.bad,.bad,.bad,.bad,.bad,.bad,.bad,.bad,v10,v11,v12,.bad,.bad,.bad,.bad,.bad,.bad,.bad,.bad,.bad,.bad,.bad,.bad,.bad,.bad,.bad,.bad,.bad,.bad,.bad,.bad,.bad,.bad,.bad,.bad,.bad,.bad,.bad,.bad,.bad,.bad,.bad,.bad,.bad,.bad,.bad,.bad,.bad,.bad,.bad,.bad,.bad,.bad,.bad,.bad,.bad,.bad,.bad,.bad,.bad,.bad,.bad,.bad,.bad,.bad,.bad,.bad,.bad,.bad,.bad,.bad,.bad,.bad,.bad,.bad,.bad,.bad,.bad,.bad,.bad,.bad,.bad,.bad,.bad,.bad,.bad,.bad]
def Qvn(v0 v51 v52 v53:V):List V:=[v0,.bad,.bad,.bad,.bad,.bad,.bad,.bad,.bad,.bad,.bad,.bad,.bad,.bad,.bad,.bad,.bad,.bad,.bad,.bad,.bad,.bad,.bad,.bad,.bad,.bad,.bad,.bad,.bad,.bad,.bad,.bad,.bad,.bad,.bad,.bad,.bad,.bad,.bad,.bad,.bad,.bad,.bad,.bad,.bad,.bad,.bad,.bad,.bad,.bad,.bad,v51,v52,v53,.bad,.bad,.bad,.bad,.bad,.bad,.bad,.bad,.bad,.bad,.bad,.bad,.bad,.bad,.bad,.bad,.bad,.bad,.bad,.bad,.bad,.bad,.bad,.bad,.bad,.bad,.bad,.bad,.bad,.bad,.bad,.bad,.bad,.bad,.bad]
def Zap(v2 v3 v5 v6:V):List V:=[.bad,.bad,v2,v3,.bad,v5,v6,.bad,.bad,.bad,.bad,.bad,.bad,.bad,.bad,.bad,.bad,.bad,.bad,.bad,.bad,.bad,.bad,.bad,.bad,.bad,.bad,.bad,.bad,.bad,.bad,.bad,.bad,.bad,.bad,.bad,.bad,.bad,.bad,.bad,.bad,.bad,.bad,.bad,.bad,.bad,.bad,.bad,.bad,.bad,.bad,.bad,.bad,.bad,.bad,.bad,.bad,.bad,.bad,.bad,.bad,.bad,.bad,.bad,.bad,.bad,.bad,.bad,.bad,.bad,.bad,.bad,.bad,.bad,.bad,.bad,.bad,.bad,.bad,.bad,.bad,.bad,.bad]
def Quu(v2 v3 v5 v7:V):List V:=[.bad,.bad,v2,v3,.bad,v5,.bad,v7,.bad,.bad,.bad,.bad,.bad,.bad,.bad,.bad,.bad,.bad,.bad,.bad,.bad,.bad,.bad,.bad,.bad,.bad,.bad,.bad,.bad,.bad,.bad,.bad,.bad,.bad,.bad,.bad,.bad,.bad,.bad,.bad,.bad,.bad,.bad,.bad,.bad,.bad,.bad,.bad,.bad,.bad,.bad,.bad,.bad,.bad,.bad,.bad,.bad,.bad,.bad,.bad,.bad,.bad,.bad,.bad,.bad,.bad,.bad,.bad,.bad,.bad,.bad,.bad,.bad,.bad,.bad,.bad,.bad,.bad,.bad,.bad,.bad,.bad,.bad]
def Q84(v0 v1 v5:V):List V:=[v0,v1,.bad,.bad,.bad,v5,.bad,.bad,.bad,.bad,.bad,.bad,.bad,.bad,.bad,.bad,.bad,.bad,.bad,.bad,.bad,.bad,.bad,.bad,.bad,.bad]
def Qmr(v1 v3 v19 v20 v21:V):List V:=[.bad,v1,.bad,v3,.bad,.bad,.bad,.bad,.bad,.bad,.bad,.bad,.bad,.bad,.bad,.bad,.bad,.bad,.bad,v19,v20,v21,.bad,.bad,.bad,.bad,.bad,.bad,.bad,.bad,.bad,.bad,.bad,.bad,.bad,.bad,.bad,.bad,.bad,.bad,.bad,.bad,.bad,.bad,.bad,.bad,.bad,.bad,.bad,.bad,.bad,.bad,.bad]
def Qh3(v3 v33 v34 v35:V):List V:=[.bad,.bad,.bad,v3,.bad,.bad,.bad,.bad,.bad,.bad,.bad,.bad,.bad,.bad,.bad,.bad,.bad,.bad,.bad,.bad,.bad,.bad,.bad,.bad,.bad,.bad,.bad,.bad,.bad,.bad,.bad,.bad,.bad,v33,v34,v35,.bad,.bad,.bad,.bad,.bad,.bad,.bad,.bad,.bad,.bad,.bad,.bad,.bad,.bad,.bad,.bad,.bad]
def Q0f(v0 v8 v9 v10:V):List V:=[v0,.bad,.bad,.bad,.bad,.bad,.bad,.bad,v8,v9,v10,.bad,.bad,.bad,.bad,.bad,.bad,.bad,.bad,.bad,.bad,.bad,.bad,.bad,.bad,.bad,.bad,.bad,.bad,.bad,.bad,.bad,.bad,.bad,.bad,.bad,.bad,.bad]
def Zak(v0 v1 v2 v8 v9 v10:V):List V:=[v0,v1,v2,.bad,.bad,.bad,.bad,.bad,v8,v9,v10,.bad,.bad,.bad,.bad,.bad,.bad,.bad,.bad,.bad,.bad,.bad,.bad,.bad,.bad,.bad,.bad,.bad,.bad,.bad,.bad,.bad,.bad,.bad,.bad,.bad,.bad,.bad,.bad,.bad,.bad,.bad,.bad,.bad,.bad,.bad,.bad,.bad,.bad]
def Q9a(v3 v6 v7 v8:V):List V:=[.bad,.bad,.bad,v3,.bad,.bad,v6,v7,v8,.bad,.bad,.bad,.bad,.bad,.bad,.bad,.bad,.bad]
def Zax(v0 v1 v7 v8:V):List V:=[v0,v1,.bad,.bad,.bad,.bad,.bad,v7,v8,.bad,.bad,.bad,.bad,.bad,.bad,.bad,.bad,.bad,.bad]
def Qwd(v1 v2 v3 v11 v12 v13:V):List V:=[.bad,v1,v2,v3,.bad,.bad,.bad,.bad,.bad,.bad,.bad,v11,v12,v13,.bad,.bad,.bad,.bad,.bad,.bad,.bad,.bad,.bad,.bad,.bad,.bad,.bad,.bad,.bad,.bad,.bad,.bad,.bad,.bad,.bad,.bad,.bad,.bad,.bad,.bad,.bad,.bad,.bad,.bad,.bad,.bad,.bad,.bad,.bad,.bad,.bad,.bad,.bad,.bad,.bad,.bad,.bad,.bad,.bad,.bad,.bad]
def Qvq(v1 v2 v27 v28 v29:V):List V:=[.bad,v1,v2,.bad,.bad,.bad,.bad,.bad,.bad,.bad,.bad,.bad,.bad,.bad,.bad,.bad,.bad,.bad,.bad,.bad,.bad,.bad,.bad,.bad,.bad,.bad,.bad,v27,v28,v29,.bad,.bad,.bad,.bad,.bad,.bad,.bad,.bad,.bad,.bad,.bad,.bad,.bad,.bad,.bad,.bad,.bad,.bad,.bad,.bad,.bad,.bad,.bad,.bad,.bad,.bad,.bad,.bad,.bad,.bad,.bad]
def Qin(v2 v43 v44 v45:V):List V:=[.bad,.bad,v2,.bad,.bad,.bad,.bad,.bad,.bad,.bad,.bad,.bad,.bad,.bad,.bad,.bad,.bad,.bad,.bad,.bad,.bad,.bad,.bad,.bad,.bad,.bad,.bad,.bad,.bad,.bad,.bad,.bad,.bad,.bad,.bad,.bad,.bad,.bad,.bad,.bad,.bad,.bad,.bad,v43,v44,v45,.bad,.bad,.bad,.bad,.bad,.bad,.bad,.bad,.bad,.bad,.bad,.bad,.bad,.bad,.bad]
def Qwh(v0 v3 v4:V):List V:=[v0,.bad,.bad,v3,v4,.bad,.bad,.bad,.bad,.bad,.bad,.bad,.bad,.bad,.bad,.bad,.bad,.bad,.bad,.bad,.bad,.bad,.bad,.bad,.bad]
def Q3o(v0 v1 v7 v8:V):List V:=[v0,v1,.bad,.bad,.bad,.bad,.bad,v7,v8,.bad,.bad,.bad,.bad,.bad,.bad,.bad,.bad,.bad,.bad]
def Qoj(v0 v2 v3 v9 v10 v11:V):List V:=[v0,.bad,v2,v3,.bad,.bad,.bad,.bad,.bad,v9,v10,v11,.bad,.bad,.bad,.bad,.bad,.bad,.bad,.bad,.bad,.bad,.bad,.bad,.bad,.bad,.bad,.bad,.bad,.bad,.bad,.bad,.bad,.bad,.bad,.bad,.bad,.bad]
def Qib(v2 v6 v21 v22 v23:V):List V:=[.bad,.bad,v2,.bad,.bad,.bad,v6,.bad,.bad,.bad,.bad,.bad,.bad,.bad,.bad,.bad,.bad,.bad,.bad,.bad,.bad,v21,v22,v23,.bad,.bad,.bad,.bad,.bad,.bad,.bad,.bad,.bad,.bad,.bad,.bad,.bad,.bad]
def Qii(v2 v4 v16:V):List V:=[.bad,.bad,v2,.bad,v4,.bad,.bad,.bad,.bad,.bad,.bad,.bad,.bad,.bad,.bad,.bad,v16,.bad,.bad,.bad,.bad,.bad,.bad,.bad,.bad,.bad,.bad,.bad,.bad,.bad,.bad]
def Q30(v0 v1 v6:V):List V:=[v0,v1,.bad,.bad,.bad,.bad,v6,.bad,.bad,.bad,.bad,.bad,.bad,.bad,.bad,.bad,.bad,.bad,.bad,.bad,.bad,.bad,.bad,.bad,.bad,.bad,.bad,.bad,.bad,.bad,.bad,.bad,.bad]
def Q25(v3 v9 v10:V):List V:=[.bad,.bad,.bad,v3,.bad,.bad,.bad,.bad,.bad,v9,v10,.bad,.bad,.bad,.bad,.bad,.bad,.bad,.bad,.bad,.bad,.bad,.bad,.bad]
def Qwb(v1 v5 v10 v11 v12:V):List V:=[.bad,v1,.bad,.bad,.bad,v5,.bad,.bad,.bad,.bad,v10,v11,v12,.bad,.bad,.bad,.bad,.bad,.bad,.bad,.bad,.bad,.bad,.bad,.bad,.bad]
def Q3d(v7 v8:V):List V:=[.bad,.bad,.bad,.bad,.bad,.bad,.bad,v7,v8,.bad,.bad,.bad,.bad,.bad,.bad,.bad,.bad,.bad,.bad,.bad,.bad,.bad,.bad,.bad,.bad,.bad,.bad,.bad,.bad,.bad,.bad,.bad,.bad,.bad,.bad,.bad,.bad,.bad,.bad,.bad,.bad,.bad,.bad,.bad,.bad,.bad,.bad,.bad]
def Q35(v0 v2 v3 v4:V):List V:=[v0,.bad,v2,v3,v4,.bad,.bad,.bad,.bad,.bad,.bad,.bad,.bad,.bad,.bad,.bad,.bad,.bad,.bad,.bad,.bad,.bad,.bad,.bad,.bad,.bad,.bad,.bad,.bad,.bad,.bad,.bad,.bad,.bad,.bad,.bad,.bad,.bad,.bad,.bad,.bad,.bad,.bad,.bad,.bad,.bad,.bad]
def Q3z(v0 v1 v2 v4:V):List V:=[v0,v1,v2,.bad,v4,.bad,.bad,.bad,.bad,.bad,.bad,.bad,.bad,.bad,.bad,.bad,.bad,.bad,.bad,.bad,.bad,.bad,.bad,.bad,.bad,.bad,.bad,.bad,.bad,.bad,.bad]
def Q3r(v3 v4 v5 v8 v9:V):List V:=[.bad,.bad,.bad,v3,v4,v5,.bad,.bad,v8,v9,.bad,.bad,.bad,.bad,.bad,.bad,.bad,.bad,.bad,.bad,.bad,.bad,.bad,.bad,.bad,.bad,.bad,.bad,.bad,.bad,.bad]
def Q3y(v2 v4 v5 v6:V):List V:=[.bad,.bad,v2,.bad,v4,v5,v6,.bad,.bad,.bad,.bad,.bad]
def Qwf(v0 v1 v3:V):List V:=[v0,v1,.bad,v3,.bad,.bad,.bad,.bad,.bad,.bad,.bad,.bad,.bad,.bad,.bad,.bad,.bad,.bad,.bad]
end
end Go.Proofs.YtpdimkonjmoadaaGreatDoor
