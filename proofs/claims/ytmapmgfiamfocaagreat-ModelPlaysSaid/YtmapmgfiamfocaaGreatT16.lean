/- This file holds in one the texts D00, R0, RF, YO2, YO3; each says at its head what it proves. -/
import Derived.Test.YtmapmgfiamfocaaGreatT12
import Derived.Test.YtmapmgfiamfocaaGreatT14
import Derived.Test.YtmapmgfiamfocaaGreatChecked
set_option linter.unusedSimpArgs false
set_option linter.unusedVariables false
section
namespace Go.Proofs.YtmapmgfiamfocaaGreat
open Go.AM
theorem Qvb{α:Type}(g:α->Bool)(l:List α)(c:Nat):∀k:Nat,(∀i,i<k->((l.drop (c*i)).take c).all g=true)->(l.drop (c*k)).all g=true->l.all g=true
 |0,_,h=>by simpa using h
 |k+1,h1,h2=>by
  refine Qvb g l c k (fun i hi=>h1 i (by omega)) ?_;have e:l.drop (c*k)=(l.drop (c*k)).take c++l.drop (c*(k+1)):=by have:=(Zft c (l.drop (c*k))).symm;rw[Zfs] at this;rw[Nat.mul_succ];exact this
  rw[e,List.all_append,h1 k (by omega),h2];rfl
def gD(F:Func):Bool:=match F.body with|some c=>Qab c|none=>true
def gN(F:Func):Bool:=F.body.isNone|| !(F.name== "runtime.NumGoroutine")
def gL(F:Func):Bool:=match F.body with|some c=>decide ((Ys c).Nodup)&&Qml c|none=>true
theorem dr0:((Tryz.prog.funcs.toList.drop (40*0)).take 40).all gD=true:=by kernel_rfl
theorem dr1:((Tryz.prog.funcs.toList.drop (40*1)).take 40).all gD=true:=by kernel_rfl
theorem dr2:((Tryz.prog.funcs.toList.drop (40*2)).take 40).all gD=true:=by kernel_rfl
theorem dr3:((Tryz.prog.funcs.toList.drop (40*3)).take 40).all gD=true:=by kernel_rfl
theorem drE:(Tryz.prog.funcs.toList.drop (40*4)).all gD=true:=by kernel_rfl
theorem Q0g:Tryz.prog.funcs.all gD=true:=by
 rw[<-Array.all_toList];refine Qvb gD _ 40 4 ?_ drE;intro i hi
 match i,hi with
 |0,_=>exact dr0
 |1,_=>exact dr1
 |2,_=>exact dr2
 |3,_=>exact dr3
 |n+4,h=>omega
theorem Q6k:Tryz.prog.funcs.all gN=true:=by kernel_rfl
theorem Q0i:Tryz.prog.funcs.all gL=true:=by kernel_rfl
end Go.Proofs.YtmapmgfiamfocaaGreat
set_option maxRecDepth 100000
namespace Go.Proofs.YtmapmgfiamfocaaGreat
open Go.AM
def inl:List Nat:=[10,27,28,29,30,31,32,33,34,35,36,37,58,38,39,40,41,42,43,44,45,46,47,59,63,64,65,62,70,66,67,68,72,74,78,76,61,15,16,71]
def inlR(f g:FuncId):Bool:=(g==25&&f !=51)||(g==50&&f==26)||(g==21&&f==20)||(g==73&&f==72)||((g==5||g==7||g==9||g==8)&&f==3)
def lookR(f g:FuncId):Bool:=(g==71&&f !=43)||((g==7||g==9||g==8)&&f==3)
def frzB:List Nat:=[23,24,25,50,26,51,20,11,9,55,3]
def mtR(f s:Nat):Bool:=if s<2000000 then((f==71&&s==5)||(f==5&&s==24)||(f==20&&s==57)) else if s<3000000 then !frzB.contains f else if s<4000000 then(f==25&&(s==3000018||s==3000036))||(f==50&&s==3000037)||(f==71&&s==3000007) else f==50&&(s==4000031||s==4000013)
def Qv:Pol where
 pure:=fun f g=> !(inl.contains g)&&!inlR f g
 mt:=mtR
 keep:=fun f r=>match f,r with
  |3,8=>some ([0,3,5,7,9],[])
  |3,13=>some ([0,3,5,7,9,10],[])
  |4,3=>some ([0,1,5,6],[])
  |6,6=>some ([0,4,5,6],[7,8])
  |7,4=>some ([0,1,5],[])
  |9,4=>some ([2,3,5],[])
  |9,9=>some ([2,3,6],[])
  |20,15=>some ([2,4,5,8,9],[])
  |20,67=>some ([3,4,5,6,14,15],[])
  |21,2=>some ([1,2,5],[])
  |22,2=>some ([0,3],[])
  |24,4=>some ([3,6,7,8],[])
  |24,16=>some ([4,6,9,11,12],[])
  |25,5=>some ([1,2,3,4],[])
  |26,24=>some ([2,4,6,7,8,9,10],[])
  |26,34=>some ([2,6,7,8,11,12],[])
  |50,6=>some ([1,2,3,4],[5])
  |51,7=>some ([1,2,4,5,6,7,8,9,10],[11])
  |52,2=>some ([1,2,5],[])
  |54,2=>some ([1,3],[])
  |55,2=>some ([1,2,6],[])
  |56,4=>some ([0,1,2,7,8,9],[])
  |57,3=>some ([0,1,5,6],[])
  |5,6=>some ([4,5,14,15,16],[7,24])
  |30,11=>some ([0,3,4,6,7],[])
  |32,6=>some ([0,3,4,5,6,7,26],[])
  |32,15=>some ([0,3,4,5,79],[])
  |59,4=>some ([0,3,14],[])
  |63,3=>some ([0,1,5,6,7,8],[])
  |70,2=>some ([0,1,8],[])
  |77,2=>some ([0,1,7,8],[])
  |_,_=>none
 lift:=fun _ g=>g==15||g==16
 look:=lookR
 side:=fun f g=>if f==20 then(if g==21 then some ([6,11,226,230,239,245,259,270,275,279,296],some 16) else none) else none
 alone:=fun f d=>f==3&&d==some 111
 news:=fun f d=>if f=20/\d=16 then some [.int .i64 0,.bool false,.int .i64 0,.int .i64 0,.int .i64 0,.nS,.nS] else none
 settle:=fun f=>if f=72 then[32] else[]
 prim:=fun f=>if f=85 then some Qd1 else if f=75 then some (Qav 84) else if f=60 then some (Qaq 81) else none
theorem Q57(f:Nat):(!frzB.contains f)=(if f=23 then false else if f=24 then false else if f=25 then false else if f=50 then false else if f=26 then false else if f=51 then false else if f=20 then false else if f=11 then false else if f=9 then false else if f=55 then false else if f=3 then false else true):=by
 repeat' (split; · rename_i h;subst h;rfl)
 simp[frzB, *]
theorem Q3a(f s:Nat):Qv.mt f (Qnn s)=if s<1000000 then(if f=23 then false else if f=24 then false else if f=25 then false else if f=50 then false else if f=26 then false else if f=51 then false else if f=20 then false else if f=11 then false else if f=9 then false else if f=55 then false else if f=3 then false else true) else mtR f (s+2000000):=by
 rw[<-Q57];have e0:Qv.mt=mtR:=rfl;have hb:Qnn s=s+2000000:=by unfold Qnn;rfl
 rw[e0,hb];by_cases h:s<1000000
 . rw[if_pos h];unfold mtR;rw[if_neg (by omega),if_pos (by omega)]
 . rw[if_neg h]
end Go.Proofs.YtmapmgfiamfocaaGreat
namespace Go.Proofs.YtmapmgfiamfocaaGreat
open Go.AM
theorem sz1:sz Tryz.prog 1=some 1:=by kernel_rfl
theorem rd1(cs:List V)(o:Nat):Zf Tryz.prog 1 cs o=cs[o]?:=Qda Tryz.underlying1 sz1 rfl cs o
theorem sz3:sz Tryz.prog 3=some 1:=by kernel_rfl
theorem zc3:zeroCells Tryz.prog 3=some [.int .i64 0]:=by kernel_rfl
theorem rd3(cs:List V)(o:Nat):Zf Tryz.prog 3 cs o=cs[o]?:=Qda Tryz.underlying3 sz3 rfl cs o
theorem sz4:sz Tryz.prog 4=some 1:=by kernel_rfl
theorem zc4:zeroCells Tryz.prog 4=some [.bool false]:=by kernel_rfl
theorem rd4(cs:List V)(o:Nat):Zf Tryz.prog 4 cs o=cs[o]?:=Qda Tryz.underlying4 sz4 rfl cs o
theorem sz5:sz Tryz.prog 5=some 1:=by kernel_rfl
theorem zc5:zeroCells Tryz.prog 5=some [.int .u8 0]:=by kernel_rfl
theorem rd5(cs:List V)(o:Nat):Zf Tryz.prog 5 cs o=cs[o]?:=Qda Tryz.underlying5 sz5 rfl cs o
theorem sz9:sz Tryz.prog 9=some 1:=by kernel_rfl
theorem zc9:zeroCells Tryz.prog 9=some [.str []]:=by kernel_rfl
theorem rd9(cs:List V)(o:Nat):Zf Tryz.prog 9 cs o=cs[o]?:=Qda Tryz.underlying9 sz9 rfl cs o
theorem ln9(g:Get)(s:List UInt8):Qaw Tryz.prog g 9 (.str s)=some (.int .i64 s.length):=ln_str Tryz.underlying9 s
theorem sz20:sz Tryz.prog 20=some 1:=by kernel_rfl
theorem sz22:sz Tryz.prog 22=some 1:=by kernel_rfl
theorem sz23:sz Tryz.prog 23=some 1:=by kernel_rfl
theorem rd23(cs:List V)(o:Nat):Zf Tryz.prog 23 cs o=cs[o]?:=Qda Tryz.underlying23 sz23 rfl cs o
theorem sz24:sz Tryz.prog 24=some 1:=by kernel_rfl
theorem rd24(cs:List V)(o:Nat):Zf Tryz.prog 24 cs o=cs[o]?:=Qda Tryz.underlying24 sz24 rfl cs o
theorem sz25:sz Tryz.prog 25=some 1:=by kernel_rfl
theorem rd25(cs:List V)(o:Nat):Zf Tryz.prog 25 cs o=cs[o]?:=Qda Tryz.underlying25 sz25 rfl cs o
theorem lnn25(g:Get):Qaw Tryz.prog g 25 .nS=some (.int .i64 0):=Q5r Tryz.underlying25
theorem sz27:sz Tryz.prog 27=some 5:=by kernel_rfl
theorem zc27:zeroCells Tryz.prog 27=some [.int .i64 0,.int .u8 0,.int .i64 0,.int .i64 0,.str []]:=by kernel_rfl
theorem rd27(cs:List V)(o:Nat):Zf Tryz.prog 27 cs o=if o+5<=cs.length then some (.agg ((cs.drop o).take 5)) else none:=Qit Tryz.underlying27 sz27 rfl cs o
theorem fo27_4:Xo Tryz.prog 27 4=some (4,9):=by kernel_rfl
theorem bv27(parts:List (Nat×V)):Qac Tryz.prog 27 parts=(Bn (fun i=>([(0,1),(1,1),(2,1),(3,1),(4,1)]:List (Nat×Nat))[i]?) [.int .i64 0,.int .u8 0,.int .i64 0,.int .i64 0,.str []] parts).map .agg:=Qim zc27 (by kernel_rfl) parts
theorem sz28:sz Tryz.prog 28=some 1:=by kernel_rfl
theorem rd28(cs:List V)(o:Nat):Zf Tryz.prog 28 cs o=cs[o]?:=Qda Tryz.underlying28 sz28 rfl cs o
theorem Qow:sz Tryz.prog 30=some 10:=by kernel_rfl
theorem zc30:zeroCells Tryz.prog 30=some [.int .i64 0,.int .i64 0,.nS,.nS,.int .i64 0,.int .u8 0,.int .i64 0,.int .i64 0,.str [],.nS]:=by kernel_rfl
theorem Jp(cs:List V)(o:Nat):Zf Tryz.prog 30 cs o=if o+10<=cs.length then some (.agg ((cs.drop o).take 10)) else none:=Qit Tryz.underlying30 Qow rfl cs o
theorem fo30_0:Xo Tryz.prog 30 0=some (0,23):=by kernel_rfl
theorem fo30_1:Xo Tryz.prog 30 1=some (1,3):=by kernel_rfl
theorem fo30_2:Xo Tryz.prog 30 2=some (2,24):=by kernel_rfl
theorem fo30_3:Xo Tryz.prog 30 3=some (3,25):=by kernel_rfl
theorem fo30_4:Xo Tryz.prog 30 4=some (4,27):=by kernel_rfl
theorem fo30_5:Xo Tryz.prog 30 5=some (9,28):=by kernel_rfl
theorem bv30(parts:List (Nat×V)):Qac Tryz.prog 30 parts=(Bn (fun i=>([(0,1),(1,1),(2,1),(3,1),(4,5),(9,1)]:List (Nat×Nat))[i]?) [.int .i64 0,.int .i64 0,.nS,.nS,.int .i64 0,.int .u8 0,.int .i64 0,.int .i64 0,.str [],.nS] parts).map .agg:=Qim zc30 (by kernel_rfl) parts
theorem sz32:sz Tryz.prog 32=some 1:=by kernel_rfl
theorem sz41:sz Tryz.prog 41=some 8:=by kernel_rfl
theorem zc41:zeroCells Tryz.prog 41=some [.int .u8 0,.int .i64 0,.int .i64 0,.int .i64 0,.str [],.str [],.str [],.nS]:=by kernel_rfl
theorem rd41(cs:List V)(o:Nat):Zf Tryz.prog 41 cs o=if o+8<=cs.length then some (.agg ((cs.drop o).take 8)) else none:=Qit Tryz.underlying41 sz41 rfl cs o
theorem fo41_0:Xo Tryz.prog 41 0=some (0,5):=by kernel_rfl
theorem fo41_1:Xo Tryz.prog 41 1=some (1,3):=by kernel_rfl
theorem fo41_2:Xo Tryz.prog 41 2=some (2,3):=by kernel_rfl
theorem fo41_3:Xo Tryz.prog 41 3=some (3,3):=by kernel_rfl
theorem fo41_4:Xo Tryz.prog 41 4=some (4,9):=by kernel_rfl
theorem fo41_5:Xo Tryz.prog 41 5=some (5,9):=by kernel_rfl
theorem fo41_6:Xo Tryz.prog 41 6=some (6,9):=by kernel_rfl
theorem fo41_7:Xo Tryz.prog 41 7=some (7,24):=by kernel_rfl
theorem sz42:sz Tryz.prog 42=some 1:=by kernel_rfl
theorem sz43:sz Tryz.prog 43=some 1:=by kernel_rfl
theorem rd43(cs:List V)(o:Nat):Zf Tryz.prog 43 cs o=cs[o]?:=Qda Tryz.underlying43 sz43 rfl cs o
theorem sz45:sz Tryz.prog 45=some 2:=by kernel_rfl
theorem zc45:zeroCells Tryz.prog 45=some [.int .i64 0,.nM]:=by kernel_rfl
theorem fo45_0:Xo Tryz.prog 45 0=some (0,3):=by kernel_rfl
theorem fo45_1:Xo Tryz.prog 45 1=some (1,43):=by kernel_rfl
theorem bv45(parts:List (Nat×V)):Qac Tryz.prog 45 parts=(Bn (fun i=>([(0,1),(1,1)]:List (Nat×Nat))[i]?) [.int .i64 0,.nM] parts).map .agg:=Qim zc45 (by kernel_rfl) parts
theorem sz47:sz Tryz.prog 47=some 1:=by kernel_rfl
theorem rd47(cs:List V)(o:Nat):Zf Tryz.prog 47 cs o=cs[o]?:=Qda Tryz.underlying47 sz47 rfl cs o
theorem sz48:sz Tryz.prog 48=some 1:=by kernel_rfl
theorem rd48(cs:List V)(o:Nat):Zf Tryz.prog 48 cs o=cs[o]?:=Qda Tryz.underlying48 sz48 rfl cs o
theorem sz50:sz Tryz.prog 50=some 4:=by kernel_rfl
theorem zc50:zeroCells Tryz.prog 50=some [.int .i64 0,.nS,.nS,.nS]:=by kernel_rfl
theorem rd50(cs:List V)(o:Nat):Zf Tryz.prog 50 cs o=if o+4<=cs.length then some (.agg ((cs.drop o).take 4)) else none:=Qit Tryz.underlying50 sz50 rfl cs o
theorem fo50_0:Xo Tryz.prog 50 0=some (0,3):=by kernel_rfl
theorem fo50_1:Xo Tryz.prog 50 1=some (1,25):=by kernel_rfl
theorem fo50_2:Xo Tryz.prog 50 2=some (2,47):=by kernel_rfl
theorem fo50_3:Xo Tryz.prog 50 3=some (3,48):=by kernel_rfl
theorem bv50(parts:List (Nat×V)):Qac Tryz.prog 50 parts=(Bn (fun i=>([(0,1),(1,1),(2,1),(3,1)]:List (Nat×Nat))[i]?) [.int .i64 0,.nS,.nS,.nS] parts).map .agg:=Qim zc50 (by kernel_rfl) parts
theorem sz56:sz Tryz.prog 56=some 1:=by kernel_rfl
theorem sz58:sz Tryz.prog 58=some 1:=by kernel_rfl
theorem sz60:sz Tryz.prog 60=some 1:=by kernel_rfl
theorem sz62:sz Tryz.prog 62=some 1:=by kernel_rfl
theorem sz64:sz Tryz.prog 64=some 1:=by kernel_rfl
theorem rd64(cs:List V)(o:Nat):Zf Tryz.prog 64 cs o=cs[o]?:=Qda Tryz.underlying64 sz64 rfl cs o
theorem sz67:sz Tryz.prog 67=some 2:=by kernel_rfl
theorem zc67:zeroCells Tryz.prog 67=some [.str [],.bool false]:=by kernel_rfl
theorem fo67_0:Xo Tryz.prog 67 0=some (0,9):=by kernel_rfl
theorem fo67_1:Xo Tryz.prog 67 1=some (1,4):=by kernel_rfl
theorem bv67(parts:List (Nat×V)):Qac Tryz.prog 67 parts=(Bn (fun i=>([(0,1),(1,1)]:List (Nat×Nat))[i]?) [.str [],.bool false] parts).map .agg:=Qim zc67 (by kernel_rfl) parts
theorem sz68:sz Tryz.prog 68=some 1:=by kernel_rfl
theorem rd68(cs:List V)(o:Nat):Zf Tryz.prog 68 cs o=cs[o]?:=Qda Tryz.underlying68 sz68 rfl cs o
theorem sz69:sz Tryz.prog 69=some 1:=by kernel_rfl
theorem rd69(cs:List V)(o:Nat):Zf Tryz.prog 69 cs o=cs[o]?:=Qda Tryz.underlying69 sz69 rfl cs o
theorem sz71:sz Tryz.prog 71=some 3:=by kernel_rfl
theorem zc71:zeroCells Tryz.prog 71=some [.int .u8 0,.int .i64 0,.nS]:=by kernel_rfl
theorem rd71(cs:List V)(o:Nat):Zf Tryz.prog 71 cs o=if o+3<=cs.length then some (.agg ((cs.drop o).take 3)) else none:=Qit Tryz.underlying71 sz71 rfl cs o
theorem fo71_0:Xo Tryz.prog 71 0=some (0,5):=by kernel_rfl
theorem fo71_1:Xo Tryz.prog 71 1=some (1,3):=by kernel_rfl
theorem fo71_2:Xo Tryz.prog 71 2=some (2,24):=by kernel_rfl
theorem bv71(parts:List (Nat×V)):Qac Tryz.prog 71 parts=(Bn (fun i=>([(0,1),(1,1),(2,1)]:List (Nat×Nat))[i]?) [.int .u8 0,.int .i64 0,.nS] parts).map .agg:=Qim zc71 (by kernel_rfl) parts
theorem sz72:sz Tryz.prog 72=some 48:=by kernel_rfl
theorem rd72(cs:List V)(o:Nat):Zf Tryz.prog 72 cs o=if o+48<=cs.length then some (.agg ((cs.drop o).take 48)) else none:=Qit Tryz.underlying72 sz72 rfl cs o
theorem sz74:sz Tryz.prog 74=some 53:=by kernel_rfl
theorem zc74:zeroCells Tryz.prog 74=some [.bool false,.int .i64 0,.int .i64 0,.nP,.nM,.int .u8 0,.int .i64 0,.nS,.int .u8 0,.int .i64 0,.nS,.int .u8 0,.int .i64 0,.nS,.int .u8 0,.int .i64 0,.nS,.int .u8 0,.int .i64 0,.nS,.int .u8 0,.int .i64 0,.nS,.int .u8 0,.int .i64 0,.nS,.int .u8 0,.int .i64 0,.nS,.int .u8 0,.int .i64 0,.nS,.int .u8 0,.int .i64 0,.nS,.int .u8 0,.int .i64 0,.nS,.int .u8 0,.int .i64 0,.nS,.int .u8 0,.int .i64 0,.nS,.int .u8 0,.int .i64 0,.nS,.int .u8 0,.int .i64 0,.nS,.int .u8 0,.int .i64 0,.nS]:=by kernel_rfl
theorem rd74(cs:List V)(o:Nat):Zf Tryz.prog 74 cs o=if o+53<=cs.length then some (.agg ((cs.drop o).take 53)) else none:=Qit Tryz.underlying74 sz74 rfl cs o
theorem fo74_0:Xo Tryz.prog 74 0=some (0,4):=by kernel_rfl
theorem fo74_1:Xo Tryz.prog 74 1=some (1,3):=by kernel_rfl
theorem fo74_2:Xo Tryz.prog 74 2=some (2,3):=by kernel_rfl
theorem fo74_3:Xo Tryz.prog 74 3=some (3,68):=by kernel_rfl
theorem fo74_4:Xo Tryz.prog 74 4=some (4,69):=by kernel_rfl
theorem fo74_5:Xo Tryz.prog 74 5=some (5,72):=by kernel_rfl
theorem bv74(parts:List (Nat×V)):Qac Tryz.prog 74 parts=(Bn (fun i=>([(0,1),(1,1),(2,1),(3,1),(4,1),(5,48)]:List (Nat×Nat))[i]?) [.bool false,.int .i64 0,.int .i64 0,.nP,.nM,.int .u8 0,.int .i64 0,.nS,.int .u8 0,.int .i64 0,.nS,.int .u8 0,.int .i64 0,.nS,.int .u8 0,.int .i64 0,.nS,.int .u8 0,.int .i64 0,.nS,.int .u8 0,.int .i64 0,.nS,.int .u8 0,.int .i64 0,.nS,.int .u8 0,.int .i64 0,.nS,.int .u8 0,.int .i64 0,.nS,.int .u8 0,.int .i64 0,.nS,.int .u8 0,.int .i64 0,.nS,.int .u8 0,.int .i64 0,.nS,.int .u8 0,.int .i64 0,.nS,.int .u8 0,.int .i64 0,.nS,.int .u8 0,.int .i64 0,.nS,.int .u8 0,.int .i64 0,.nS] parts).map .agg:=Qim zc74 (by kernel_rfl) parts
theorem sz78:sz Tryz.prog 78=some 1:=by kernel_rfl
theorem rd78(cs:List V)(o:Nat):Zf Tryz.prog 78 cs o=cs[o]?:=Qda Tryz.underlying78 sz78 rfl cs o
theorem sz79:sz Tryz.prog 79=some 1:=by kernel_rfl
theorem rd79(cs:List V)(o:Nat):Zf Tryz.prog 79 cs o=cs[o]?:=Qda Tryz.underlying79 sz79 rfl cs o
theorem Qa2:sz Tryz.prog 81=some 7:=by kernel_rfl
theorem Qkv:zeroCells Tryz.prog 81=some [.int .i64 0,.bool false,.int .i64 0,.int .i64 0,.int .i64 0,.nS,.nS]:=by kernel_rfl
theorem Qj7(cs:List V)(o:Nat):Zf Tryz.prog 81 cs o=if o+7<=cs.length then some (.agg ((cs.drop o).take 7)) else none:=Qit Tryz.underlying81 Qa2 rfl cs o
theorem fo81_0:Xo Tryz.prog 81 0=some (0,3):=by kernel_rfl
theorem fo81_1:Xo Tryz.prog 81 1=some (1,4):=by kernel_rfl
theorem fo81_2:Xo Tryz.prog 81 2=some (2,3):=by kernel_rfl
theorem fo81_3:Xo Tryz.prog 81 3=some (3,3):=by kernel_rfl
theorem fo81_4:Xo Tryz.prog 81 4=some (4,3):=by kernel_rfl
theorem fo81_5:Xo Tryz.prog 81 5=some (5,78):=by kernel_rfl
theorem fo81_6:Xo Tryz.prog 81 6=some (6,79):=by kernel_rfl
theorem bv81(parts:List (Nat×V)):Qac Tryz.prog 81 parts=(Bn (fun i=>([(0,1),(1,1),(2,1),(3,1),(4,1),(5,1),(6,1)]:List (Nat×Nat))[i]?) [.int .i64 0,.bool false,.int .i64 0,.int .i64 0,.int .i64 0,.nS,.nS] parts).map .agg:=Qim Qkv (by kernel_rfl) parts
theorem sz89:sz Tryz.prog 89=some 1:=by kernel_rfl
theorem Qhk:sz Tryz.prog 95=some 3:=by kernel_rfl
theorem zc95:zeroCells Tryz.prog 95=some [.int .u8 0,.int .i64 0,.nS]:=by kernel_rfl
theorem rd95(cs:List V)(o:Nat):Zf Tryz.prog 95 cs o=if o+3<=cs.length then some (.agg ((cs.drop o).take 3)) else none:=Qit Tryz.underlying95 Qhk rfl cs o
theorem fo95_0:Xo Tryz.prog 95 0=some (0,5):=by kernel_rfl
theorem fo95_1:Xo Tryz.prog 95 1=some (1,3):=by kernel_rfl
theorem fo95_2:Xo Tryz.prog 95 2=some (2,24):=by kernel_rfl
theorem bv95(parts:List (Nat×V)):Qac Tryz.prog 95 parts=(Bn (fun i=>([(0,1),(1,1),(2,1)]:List (Nat×Nat))[i]?) [.int .u8 0,.int .i64 0,.nS] parts).map .agg:=Qim zc95 (by kernel_rfl) parts
theorem Qqx:sz Tryz.prog 98=some 2:=by kernel_rfl
theorem zc98:zeroCells Tryz.prog 98=some [.str [],.int .i64 0]:=by kernel_rfl
theorem rd98(cs:List V)(o:Nat):Zf Tryz.prog 98 cs o=if o+2<=cs.length then some (.agg ((cs.drop o).take 2)) else none:=Qit Tryz.underlying98 Qqx rfl cs o
theorem fo98_0:Xo Tryz.prog 98 0=some (0,9):=by kernel_rfl
theorem fo98_1:Xo Tryz.prog 98 1=some (1,3):=by kernel_rfl
theorem bv98(parts:List (Nat×V)):Qac Tryz.prog 98 parts=(Bn (fun i=>([(0,1),(1,1)]:List (Nat×Nat))[i]?) [.str [],.int .i64 0] parts).map .agg:=Qim zc98 (by kernel_rfl) parts
theorem sz105:sz Tryz.prog 105=some 1:=by kernel_rfl
theorem sz119:sz Tryz.prog 119=some 1:=by kernel_rfl
theorem sz129:sz Tryz.prog 129=some 1:=by kernel_rfl
theorem sz133:sz Tryz.prog 133=some 1:=by kernel_rfl
theorem sz150:sz Tryz.prog 150=some 1:=by kernel_rfl
theorem sz154:sz Tryz.prog 154=some 1:=by kernel_rfl
abbrev ta:=ai @Q3a<|ai @sz3<|ai @zc3<|ai @rd3<|ai @sz4<|ai @zc4<|ai @rd4<|ai @sz5<|ai @zc5<|ai @rd5<|ai @sz9<|ai @zc9<|ai @rd9<|ai @ln9<|ai @rd23<|ai @sz24<|ai @rd24<|ai @sz25<|ai @rd25<|ai @lnn25<|ai @sz27<|ai @zc27<|ai @rd27<|ai @fo27_4<|ai @bv27<|ai @rd28<|ai @Qow<|ai @zc30<|ai @Jp<|ai @fo30_0<|ai @fo30_1<|ai @fo30_2<|ai @fo30_3<|ai @fo30_4<|ai @fo30_5<|ai @bv30<|ai @sz41<|ai @zc41<|ai @rd41<|ai @fo41_0<|ai @fo41_1<|ai @fo41_2<|ai @fo41_3<|ai @fo41_4<|ai @fo41_5<|ai @fo41_6<|ai @fo41_7<|ai @rd43<|ai @fo45_0<|ai @fo45_1<|ai @bv45<|ai @sz47<|ai @rd47<|ai @sz48<|ai @rd48<|ai @sz50<|ai @zc50<|ai @rd50<|ai @fo50_0<|ai @fo50_1<|ai @fo50_2<|ai @fo50_3<|ai @bv50<|ai @rd64<|ai @fo67_0<|ai @fo67_1<|ai @bv67<|ai @rd68<|ai @sz69<|ai @rd69<|ai @sz71<|ai @zc71<|ai @rd71<|ai @fo71_0<|ai @fo71_1<|ai @fo71_2<|ai @bv71<|ai @sz72<|ai @fo74_0<|ai @fo74_1<|ai @fo74_2<|ai @fo74_3<|ai @fo74_4<|ai @fo74_5<|ai @bv74<|ai @sz78<|ai @rd78<|ai @sz79<|ai @rd79<|ai @Qa2<|ai @Qkv<|ai @Qj7<|ai @fo81_0<|ai @fo81_1<|ai @fo81_2<|ai @fo81_3<|ai @fo81_4<|ai @fo81_5<|ai @fo81_6<|ai @bv81<|ai @Qhk<|ai @zc95<|ai @rd95<|ai @fo95_0<|ai @fo95_1<|ai @fo95_2<|ai @bv95<|ai @Qqx<|ai @zc98<|ai @fo98_0<|ai @fo98_1<| @bv98
def st3_8(v0 v3 v5 v7 v9:V):List V:=[v0,.bad,.bad,v3,.bad,v5,.bad,v7,.bad,v9,.bad,.bad,.bad,.bad,.bad,.bad,.bad,.bad,.bad,.bad,.bad,.bad,.bad,.bad,.bad,.bad,.bad,.bad,.bad,.bad,.bad,.bad,.bad,.bad,.bad,.bad,.bad,.bad,.bad,.bad,.bad,.bad,.bad,.bad,.bad,.bad,.bad,.bad,.bad,.bad,.bad,.bad,.bad,.bad,.bad,.bad,.bad,.bad,.bad,.bad,.bad,.bad,.bad,.bad,.bad,.bad,.bad,.bad,.bad,.bad,.bad,.bad,.bad,.bad,.bad,.bad,.bad,.bad,.bad,.bad,.bad,.bad,.bad,.bad,.bad,.bad,.bad,.bad,.bad,.bad,.bad,.bad,.bad,.bad,.bad,.bad,.bad,.bad,.bad,.bad,.bad,.bad,.bad,.bad,.bad,.bad,.bad,.bad,.bad,.bad,.bad,.bad,.bad,.bad,.bad,.bad,.bad]
def Q3g(v0 v3 v5 v7 v9 v10:V):List V:=[v0,.bad,.bad,v3,.bad,v5,.bad,v7,.bad,v9,v10,.bad,.bad,.bad,.bad,.bad,.bad,.bad,.bad,.bad,.bad,.bad,.bad,.bad,.bad,.bad,.bad,.bad,.bad,.bad,.bad,.bad,.bad,.bad,.bad,.bad,.bad,.bad,.bad,.bad,.bad,.bad,.bad,.bad,.bad,.bad,.bad,.bad,.bad,.bad,.bad,.bad,.bad,.bad,.bad,.bad,.bad,.bad,.bad,.bad,.bad,.bad,.bad,.bad,.bad,.bad,.bad,.bad,.bad,.bad,.bad,.bad,.bad,.bad,.bad,.bad,.bad,.bad,.bad,.bad,.bad,.bad,.bad,.bad,.bad,.bad,.bad,.bad,.bad,.bad,.bad,.bad,.bad,.bad,.bad,.bad,.bad,.bad,.bad,.bad,.bad,.bad,.bad,.bad,.bad,.bad,.bad,.bad,.bad,.bad,.bad,.bad,.bad,.bad,.bad,.bad,.bad]
def st4_3(v0 v1 v5 v6:V):List V:=[v0,v1,.bad,.bad,.bad,v5,v6,.bad,.bad,.bad,.bad,.bad,.bad,.bad,.bad,.bad,.bad,.bad,.bad,.bad,.bad,.bad,.bad,.bad,.bad,.bad,.bad,.bad,.bad,.bad,.bad,.bad,.bad,.bad,.bad,.bad,.bad,.bad,.bad,.bad,.bad,.bad,.bad,.bad,.bad,.bad,.bad,.bad,.bad,.bad,.bad,.bad,.bad,.bad,.bad,.bad,.bad,.bad,.bad,.bad,.bad,.bad,.bad,.bad,.bad,.bad,.bad,.bad]
def Q5i(v4 v5 v14 v15 v16:V):List V:=[.bad,.bad,.bad,.bad,v4,v5,.bad,.bad,.bad,.bad,.bad,.bad,.bad,.bad,v14,v15,v16,.bad,.bad,.bad,.bad,.bad,.bad,.bad,.bad,.bad,.bad,.bad]
def Qzc(v0 v4 v5 v6:V):List V:=[v0,.bad,.bad,.bad,v4,v5,v6,.bad,.bad,.bad,.bad,.bad,.bad,.bad,.bad,.bad,.bad,.bad,.bad,.bad,.bad,.bad,.bad,.bad,.bad,.bad,.bad,.bad,.bad,.bad,.bad,.bad,.bad]
def st7_4(v0 v1 v5:V):List V:=[v0,v1,.bad,.bad,.bad,v5,.bad,.bad,.bad,.bad,.bad,.bad,.bad,.bad,.bad,.bad,.bad,.bad,.bad,.bad,.bad,.bad,.bad,.bad,.bad,.bad,.bad]
def st9_4(v2 v3 v5:V):List V:=[.bad,.bad,v2,v3,.bad,v5,.bad,.bad,.bad,.bad,.bad,.bad,.bad,.bad,.bad,.bad,.bad,.bad,.bad,.bad,.bad,.bad,.bad,.bad,.bad,.bad,.bad,.bad,.bad,.bad,.bad,.bad,.bad,.bad,.bad,.bad,.bad,.bad,.bad,.bad,.bad,.bad,.bad,.bad,.bad,.bad,.bad,.bad,.bad,.bad,.bad,.bad,.bad,.bad,.bad,.bad,.bad,.bad,.bad,.bad,.bad,.bad,.bad,.bad,.bad,.bad,.bad,.bad,.bad,.bad,.bad,.bad,.bad,.bad,.bad,.bad,.bad,.bad,.bad,.bad,.bad,.bad,.bad,.bad,.bad,.bad,.bad,.bad,.bad]
def st9_9(v2 v3 v6:V):List V:=[.bad,.bad,v2,v3,.bad,.bad,v6,.bad,.bad,.bad,.bad,.bad,.bad,.bad,.bad,.bad,.bad,.bad,.bad,.bad,.bad,.bad,.bad,.bad,.bad,.bad,.bad,.bad,.bad,.bad,.bad,.bad,.bad,.bad,.bad,.bad,.bad,.bad,.bad,.bad,.bad,.bad,.bad,.bad,.bad,.bad,.bad,.bad,.bad,.bad,.bad,.bad,.bad,.bad,.bad,.bad,.bad,.bad,.bad,.bad,.bad,.bad,.bad,.bad,.bad,.bad,.bad,.bad,.bad,.bad,.bad,.bad,.bad,.bad,.bad,.bad,.bad,.bad,.bad,.bad,.bad,.bad,.bad,.bad,.bad,.bad,.bad,.bad,.bad]
def Qzh(v2 v4 v5 v8 v9:V):List V:=[.bad,.bad,v2,.bad,v4,v5,.bad,.bad,v8,v9,.bad,.bad,.bad,.bad,.bad,.bad,.bad,.bad,.bad,.bad,.bad,.bad,.bad,.bad,.bad,.bad,.bad,.bad,.bad,.bad,.bad,.bad,.bad,.bad,.bad,.bad,.bad,.bad,.bad,.bad,.bad,.bad,.bad,.bad,.bad,.bad,.bad,.bad,.bad,.bad,.bad,.bad,.bad,.bad,.bad,.bad,.bad,.bad,.bad,.bad,.bad,.bad,.bad,.bad,.bad,.bad,.bad,.bad,.bad,.bad,.bad,.bad,.bad,.bad,.bad,.bad,.bad,.bad,.bad,.bad,.bad,.bad,.bad,.bad,.bad,.bad,.bad,.bad,.bad,.bad,.bad,.bad,.bad,.bad,.bad,.bad,.bad,.bad,.bad,.bad,.bad,.bad,.bad,.bad,.bad,.bad,.bad,.bad,.bad,.bad,.bad,.bad,.bad,.bad,.bad,.bad,.bad,.bad,.bad,.bad,.bad,.bad,.bad,.bad,.bad,.bad,.bad,.bad,.bad,.bad,.bad,.bad,.bad,.bad,.bad,.bad,.bad,.bad,.bad,.bad,.bad,.bad,.bad,.bad,.bad,.bad,.bad,.bad,.bad,.bad,.bad,.bad,.bad,.bad,.bad,.bad,.bad,.bad,.bad,.bad,.bad,.bad,.bad,.bad,.bad,.bad,.bad,.bad,.bad,.bad,.bad,.bad,.bad,.bad,.bad,.bad,.bad,.bad,.bad,.bad,.bad,.bad,.bad,.bad,.bad,.bad,.bad,.bad,.bad,.bad,.bad,.bad,.bad,.bad,.bad,.bad,.bad,.bad,.bad,.bad,.bad,.bad,.bad,.bad,.bad,.bad,.bad,.bad,.bad,.bad,.bad,.bad,.bad,.bad,.bad,.bad,.bad,.bad,.bad,.bad,.bad,.bad,.bad,.bad,.bad,.bad,.bad,.bad,.bad,.bad,.bad,.bad,.bad,.bad,.bad,.bad,.bad,.bad,.bad,.bad,.bad,.bad,.bad,.bad,.bad,.bad,.bad,.bad,.bad,.bad,.bad,.bad,.bad,.bad,.bad,.bad,.bad,.bad,.bad,.bad,.bad,.bad,.bad,.bad,.bad,.bad,.bad,.bad,.bad,.bad,.bad,.bad,.bad,.bad,.bad,.bad,.bad,.bad,.bad,.bad,.bad,.bad,.bad,.bad,.bad,.bad,.bad,.bad,.bad,.bad,.bad,.bad,.bad,.bad,.bad,.bad,.bad,.bad,.bad,.bad,.bad,.bad,.bad,.bad,.bad,.bad,.bad,.bad,.bad,.bad,.bad,.bad,.bad,.bad,.bad,.bad,.bad,.bad,.bad,.bad,.bad,.bad]
def Qzr(v3 v4 v5 v6 v14 v15:V):List V:=[.bad,.bad,.bad,v3,v4,v5,v6,.bad,.bad,.bad,.bad,.bad,.bad,.bad,v14,v15,.bad,.bad,.bad,.bad,.bad,.bad,.bad,.bad,.bad,.bad,.bad,.bad,.bad,.bad,.bad,.bad,.bad,.bad,.bad,.bad,.bad,.bad,.bad,.bad,.bad,.bad,.bad,.bad,.bad,.bad,.bad,.bad,.bad,.bad,.bad,.bad,.bad,.bad,.bad,.bad,.bad,.bad,.bad,.bad,.bad,.bad,.bad,.bad,.bad,.bad,.bad,.bad,.bad,.bad,.bad,.bad,.bad,.bad,.bad,.bad,.bad,.bad,.bad,.bad,.bad,.bad,.bad,.bad,.bad,.bad,.bad,.bad,.bad,.bad,.bad,.bad,.bad,.bad,.bad,.bad,.bad,.bad,.bad,.bad,.bad,.bad,.bad,.bad,.bad,.bad,.bad,.bad,.bad,.bad,.bad,.bad,.bad,.bad,.bad,.bad,.bad,.bad,.bad,.bad,.bad,.bad,.bad,.bad,.bad,.bad,.bad,.bad,.bad,.bad,.bad,.bad,.bad,.bad,.bad,.bad,.bad,.bad,.bad,.bad,.bad,.bad,.bad,.bad,.bad,.bad,.bad,.bad,.bad,.bad,.bad,.bad,.bad,.bad,.bad,.bad,.bad,.bad,.bad,.bad,.bad,.bad,.bad,.bad,.bad,.bad,.bad,.bad,.bad,.bad,.bad,.bad,.bad,.bad,.bad,.bad,.bad,.bad,.bad,.bad,.bad,.bad,.bad,.bad,.bad,.bad,.bad,.bad,.bad,.bad,.bad,.bad,.bad,.bad,.bad,.bad,.bad,.bad,.bad,.bad,.bad,.bad,.bad,.bad,.bad,.bad,.bad,.bad,.bad,.bad,.bad,.bad,.bad,.bad,.bad,.bad,.bad,.bad,.bad,.bad,.bad,.bad,.bad,.bad,.bad,.bad,.bad,.bad,.bad,.bad,.bad,.bad,.bad,.bad,.bad,.bad,.bad,.bad,.bad,.bad,.bad,.bad,.bad,.bad,.bad,.bad,.bad,.bad,.bad,.bad,.bad,.bad,.bad,.bad,.bad,.bad,.bad,.bad,.bad,.bad,.bad,.bad,.bad,.bad,.bad,.bad,.bad,.bad,.bad,.bad,.bad,.bad,.bad,.bad,.bad,.bad,.bad,.bad,.bad,.bad,.bad,.bad,.bad,.bad,.bad,.bad,.bad,.bad,.bad,.bad,.bad,.bad,.bad,.bad,.bad,.bad,.bad,.bad,.bad,.bad,.bad,.bad,.bad,.bad,.bad,.bad,.bad,.bad,.bad,.bad,.bad,.bad,.bad,.bad,.bad,.bad,.bad,.bad,.bad,.bad,.bad,.bad]
def Qsy(v1 v2 v5:V):List V:=[.bad,v1,v2,.bad,.bad,v5,.bad,.bad,.bad,.bad,.bad,.bad,.bad,.bad,.bad,.bad,.bad,.bad,.bad,.bad,.bad,.bad]
def Q2z(v0 v3:V):List V:=[v0,.bad,.bad,v3,.bad,.bad,.bad,.bad,.bad,.bad,.bad,.bad,.bad,.bad,.bad,.bad,.bad,.bad,.bad,.bad,.bad,.bad,.bad,.bad,.bad,.bad,.bad]
def Q52(v3 v6 v7 v8:V):List V:=[.bad,.bad,.bad,v3,.bad,.bad,v6,v7,v8,.bad,.bad,.bad,.bad,.bad,.bad,.bad,.bad,.bad,.bad,.bad,.bad,.bad,.bad,.bad,.bad,.bad,.bad,.bad,.bad,.bad,.bad,.bad,.bad,.bad,.bad,.bad,.bad,.bad,.bad,.bad,.bad,.bad,.bad,.bad,.bad,.bad,.bad,.bad,.bad,.bad,.bad,.bad,.bad,.bad,.bad,.bad,.bad,.bad,.bad,.bad,.bad,.bad,.bad,.bad,.bad,.bad,.bad,.bad,.bad,.bad,.bad,.bad,.bad,.bad,.bad,.bad,.bad,.bad,.bad,.bad,.bad,.bad,.bad,.bad,.bad,.bad,.bad,.bad]
def Qy4(v4 v6 v9 v11 v12:V):List V:=[.bad,.bad,.bad,.bad,v4,.bad,v6,.bad,.bad,v9,.bad,v11,v12,.bad,.bad,.bad,.bad,.bad,.bad,.bad,.bad,.bad,.bad,.bad,.bad,.bad,.bad,.bad,.bad,.bad,.bad,.bad,.bad,.bad,.bad,.bad,.bad,.bad,.bad,.bad,.bad,.bad,.bad,.bad,.bad,.bad,.bad,.bad,.bad,.bad,.bad,.bad,.bad,.bad,.bad,.bad,.bad,.bad,.bad,.bad,.bad,.bad,.bad,.bad,.bad,.bad,.bad,.bad,.bad,.bad,.bad,.bad,.bad,.bad,.bad,.bad,.bad,.bad,.bad,.bad,.bad,.bad,.bad,.bad,.bad,.bad,.bad,.bad]
def Qhi(v1 v2 v3 v4:V):List V:=[.bad,v1,v2,v3,v4,.bad,.bad,.bad,.bad,.bad,.bad,.bad,.bad,.bad,.bad,.bad,.bad,.bad,.bad,.bad,.bad,.bad,.bad,.bad,.bad,.bad,.bad,.bad,.bad,.bad,.bad,.bad,.bad,.bad,.bad,.bad,.bad,.bad,.bad]
def Qzi(v2 v4 v6 v7 v8 v9 v10:V):List V:=[.bad,.bad,v2,.bad,v4,.bad,v6,v7,v8,v9,v10,.bad,.bad,.bad,.bad,.bad,.bad,.bad,.bad,.bad,.bad,.bad,.bad,.bad,.bad,.bad,.bad,.bad,.bad,.bad,.bad,.bad,.bad,.bad,.bad,.bad,.bad,.bad,.bad,.bad,.bad,.bad,.bad,.bad,.bad,.bad,.bad,.bad,.bad,.bad,.bad,.bad,.bad,.bad,.bad,.bad,.bad,.bad,.bad,.bad,.bad,.bad,.bad,.bad,.bad,.bad,.bad,.bad,.bad,.bad,.bad,.bad,.bad,.bad,.bad,.bad,.bad,.bad,.bad,.bad,.bad,.bad,.bad,.bad,.bad,.bad,.bad,.bad,.bad,.bad,.bad,.bad,.bad,.bad,.bad,.bad,.bad,.bad,.bad,.bad,.bad,.bad,.bad,.bad,.bad,.bad,.bad,.bad,.bad,.bad,.bad,.bad,.bad,.bad,.bad,.bad,.bad,.bad,.bad,.bad,.bad,.bad,.bad,.bad,.bad,.bad,.bad,.bad,.bad,.bad,.bad,.bad,.bad,.bad,.bad,.bad,.bad,.bad,.bad,.bad,.bad,.bad,.bad,.bad,.bad,.bad,.bad,.bad,.bad,.bad,.bad,.bad,.bad,.bad,.bad,.bad,.bad,.bad,.bad,.bad,.bad,.bad,.bad,.bad,.bad,.bad,.bad,.bad,.bad,.bad,.bad,.bad,.bad,.bad,.bad,.bad,.bad,.bad,.bad,.bad,.bad,.bad,.bad]
def Qzg(v2 v6 v7 v8 v11 v12:V):List V:=[.bad,.bad,v2,.bad,.bad,.bad,v6,v7,v8,.bad,.bad,v11,v12,.bad,.bad,.bad,.bad,.bad,.bad,.bad,.bad,.bad,.bad,.bad,.bad,.bad,.bad,.bad,.bad,.bad,.bad,.bad,.bad,.bad,.bad,.bad,.bad,.bad,.bad,.bad,.bad,.bad,.bad,.bad,.bad,.bad,.bad,.bad,.bad,.bad,.bad,.bad,.bad,.bad,.bad,.bad,.bad,.bad,.bad,.bad,.bad,.bad,.bad,.bad,.bad,.bad,.bad,.bad,.bad,.bad,.bad,.bad,.bad,.bad,.bad,.bad,.bad,.bad,.bad,.bad,.bad,.bad,.bad,.bad,.bad,.bad,.bad,.bad,.bad,.bad,.bad,.bad,.bad,.bad,.bad,.bad,.bad,.bad,.bad,.bad,.bad,.bad,.bad,.bad,.bad,.bad,.bad,.bad,.bad,.bad,.bad,.bad,.bad,.bad,.bad,.bad,.bad,.bad,.bad,.bad,.bad,.bad,.bad,.bad,.bad,.bad,.bad,.bad,.bad,.bad,.bad,.bad,.bad,.bad,.bad,.bad,.bad,.bad,.bad,.bad,.bad,.bad,.bad,.bad,.bad,.bad,.bad,.bad,.bad,.bad,.bad,.bad,.bad,.bad,.bad,.bad,.bad,.bad,.bad,.bad,.bad,.bad,.bad,.bad,.bad,.bad,.bad,.bad,.bad,.bad,.bad,.bad,.bad,.bad,.bad,.bad,.bad,.bad,.bad,.bad,.bad,.bad,.bad]
def Qzw(v0 v3 v4 v6 v7:V):List V:=[v0,.bad,.bad,v3,v4,.bad,v6,v7,.bad,.bad,.bad,.bad,.bad,.bad,.bad,.bad,.bad,.bad,.bad,.bad,.bad,.bad,.bad,.bad,.bad,.bad,.bad,.bad,.bad,.bad,.bad,.bad,.bad,.bad,.bad,.bad,.bad,.bad,.bad,.bad,.bad,.bad,.bad,.bad,.bad,.bad,.bad,.bad,.bad,.bad,.bad,.bad,.bad,.bad,.bad,.bad,.bad,.bad,.bad,.bad,.bad,.bad,.bad,.bad,.bad,.bad,.bad,.bad,.bad,.bad,.bad,.bad,.bad,.bad,.bad,.bad,.bad,.bad,.bad,.bad,.bad,.bad,.bad,.bad,.bad,.bad,.bad,.bad,.bad,.bad,.bad,.bad,.bad,.bad,.bad,.bad,.bad,.bad]
def Qjl(v0 v3 v4 v5 v6 v7 v26:V):List V:=[v0,.bad,.bad,v3,v4,v5,v6,v7,.bad,.bad,.bad,.bad,.bad,.bad,.bad,.bad,.bad,.bad,.bad,.bad,.bad,.bad,.bad,.bad,.bad,.bad,v26,.bad,.bad,.bad,.bad,.bad,.bad,.bad,.bad,.bad,.bad,.bad,.bad,.bad,.bad,.bad,.bad,.bad,.bad,.bad,.bad,.bad,.bad,.bad,.bad,.bad,.bad,.bad,.bad,.bad,.bad,.bad,.bad,.bad,.bad,.bad,.bad,.bad,.bad,.bad,.bad,.bad,.bad,.bad,.bad,.bad,.bad,.bad,.bad,.bad,.bad,.bad,.bad,.bad,.bad,.bad,.bad,.bad,.bad,.bad,.bad,.bad,.bad,.bad,.bad,.bad,.bad,.bad,.bad,.bad,.bad,.bad,.bad,.bad,.bad,.bad,.bad,.bad,.bad]
def Qcv(v0 v3 v4 v5 v79:V):List V:=[v0,.bad,.bad,v3,v4,v5,.bad,.bad,.bad,.bad,.bad,.bad,.bad,.bad,.bad,.bad,.bad,.bad,.bad,.bad,.bad,.bad,.bad,.bad,.bad,.bad,.bad,.bad,.bad,.bad,.bad,.bad,.bad,.bad,.bad,.bad,.bad,.bad,.bad,.bad,.bad,.bad,.bad,.bad,.bad,.bad,.bad,.bad,.bad,.bad,.bad,.bad,.bad,.bad,.bad,.bad,.bad,.bad,.bad,.bad,.bad,.bad,.bad,.bad,.bad,.bad,.bad,.bad,.bad,.bad,.bad,.bad,.bad,.bad,.bad,.bad,.bad,.bad,.bad,v79,.bad,.bad,.bad,.bad,.bad,.bad,.bad,.bad,.bad,.bad,.bad,.bad,.bad,.bad,.bad,.bad,.bad,.bad,.bad,.bad,.bad,.bad,.bad,.bad,.bad]
def Qdk(v1 v2 v3 v4:V):List V:=[.bad,v1,v2,v3,v4,.bad,.bad,.bad,.bad,.bad,.bad,.bad,.bad,.bad,.bad,.bad,.bad,.bad,.bad,.bad,.bad,.bad,.bad,.bad,.bad,.bad,.bad,.bad,.bad,.bad,.bad,.bad,.bad,.bad,.bad,.bad,.bad,.bad,.bad,.bad]
def Qr7(v1 v2 v4 v5 v6 v7 v8 v9 v10:V):List V:=[.bad,v1,v2,.bad,v4,v5,v6,v7,v8,v9,v10,.bad,.bad,.bad,.bad,.bad,.bad,.bad,.bad,.bad,.bad,.bad,.bad,.bad,.bad,.bad,.bad,.bad,.bad,.bad,.bad,.bad,.bad,.bad,.bad,.bad,.bad,.bad,.bad,.bad,.bad,.bad,.bad,.bad,.bad,.bad,.bad,.bad,.bad,.bad,.bad,.bad,.bad,.bad,.bad,.bad,.bad,.bad,.bad,.bad,.bad,.bad,.bad,.bad,.bad,.bad,.bad,.bad,.bad,.bad,.bad,.bad,.bad,.bad,.bad,.bad,.bad,.bad,.bad,.bad,.bad,.bad]
def Q4f(v1 v2 v5:V):List V:=[.bad,v1,v2,.bad,.bad,v5,.bad,.bad,.bad,.bad,.bad,.bad,.bad,.bad,.bad,.bad,.bad,.bad,.bad,.bad,.bad,.bad,.bad,.bad,.bad,.bad,.bad]
def Q34(v1 v3:V):List V:=[.bad,v1,.bad,v3,.bad,.bad,.bad,.bad,.bad,.bad,.bad,.bad,.bad,.bad,.bad,.bad]
def Q39(v1 v2 v6:V):List V:=[.bad,v1,v2,.bad,.bad,.bad,v6,.bad,.bad,.bad,.bad,.bad,.bad,.bad,.bad,.bad,.bad,.bad,.bad,.bad,.bad,.bad,.bad,.bad,.bad,.bad,.bad,.bad,.bad,.bad,.bad,.bad]
def Q3b(v0 v1 v2 v7 v8 v9:V):List V:=[v0,v1,v2,.bad,.bad,.bad,.bad,v7,v8,v9,.bad,.bad,.bad,.bad,.bad,.bad,.bad,.bad,.bad,.bad,.bad,.bad,.bad,.bad,.bad,.bad,.bad,.bad,.bad,.bad,.bad,.bad,.bad,.bad,.bad,.bad,.bad,.bad,.bad,.bad,.bad,.bad,.bad,.bad,.bad,.bad,.bad,.bad,.bad]
def Q3t(v0 v1 v5 v6:V):List V:=[v0,v1,.bad,.bad,.bad,v5,v6,.bad,.bad,.bad,.bad,.bad,.bad,.bad,.bad,.bad,.bad,.bad,.bad,.bad,.bad,.bad,.bad,.bad,.bad,.bad,.bad,.bad]
def Q4g(v0 v3 v14:V):List V:=[v0,.bad,.bad,v3,.bad,.bad,.bad,.bad,.bad,.bad,.bad,.bad,.bad,.bad,v14,.bad,.bad,.bad,.bad,.bad,.bad,.bad,.bad,.bad,.bad,.bad,.bad,.bad,.bad,.bad]
def Q3d(v0 v1 v5 v6 v7 v8:V):List V:=[v0,v1,.bad,.bad,.bad,v5,v6,v7,v8,.bad,.bad,.bad,.bad,.bad,.bad,.bad,.bad,.bad,.bad,.bad,.bad,.bad,.bad,.bad,.bad,.bad,.bad,.bad,.bad,.bad,.bad,.bad,.bad,.bad,.bad,.bad,.bad,.bad,.bad,.bad,.bad,.bad,.bad,.bad,.bad,.bad,.bad,.bad,.bad,.bad,.bad,.bad,.bad,.bad,.bad,.bad]
def Q4z(v0 v1 v8:V):List V:=[v0,v1,.bad,.bad,.bad,.bad,.bad,.bad,v8,.bad,.bad,.bad,.bad,.bad,.bad,.bad,.bad,.bad,.bad,.bad,.bad,.bad,.bad,.bad,.bad,.bad,.bad,.bad,.bad,.bad,.bad,.bad,.bad,.bad,.bad,.bad,.bad,.bad,.bad,.bad,.bad]
def Q5c(v0 v1 v7 v8:V):List V:=[v0,v1,.bad,.bad,.bad,.bad,.bad,v7,v8,.bad,.bad,.bad,.bad,.bad,.bad,.bad,.bad,.bad,.bad]
end Go.Proofs.YtmapmgfiamfocaaGreat
namespace Go.Proofs.YtmapmgfiamfocaaGreat
open Go.AM Go.Mod
attribute [local irreducible] U W
theorem Qe6(b:UInt8):Qfq b=true↔b.toNat<33\/126<b.toNat:=by simp[Qfq]
theorem bad_fz(b:UInt8):Fz Tryz.prog Qv 49 [.int .u8 b.toNat] fun r=>r= .bool (Qfq b):=by
 refine Jx Tryz.func49 rfl ?_;simp only[wA,↓Qc,simprocAttr,Tryz.ntmps49];refine W.guardF (fun h=>?_) (fun h=>?_)
 . simp only[wA,↓Qc,simprocAttr,h];have h1:=of_decide_eq_false h;have e:decide ((b.toNat:Int)>126)=Qfq b:=by
    by_cases h2:126<b.toNat
    . rw[(Qe6 b).2 (.inr h2)];exact Zig (by omega)
    . have hf:Qfq b=false:=Bool.eq_false_iff.2 (fun e=>by rcases(Qe6 b).1 e with h3|h3<;>omega);rw[hf];exact Zih (by omega)
   exact W.done (Zg.ret rfl rfl (by rw[<-e];rfl))
 . simp only[wA,↓Qc,simprocAttr,h];have h1:=of_decide_eq_true h;have e:Qfq b=true:=(Qe6 b).2 (.inl (by omega));exact W.done (Zg.ret rfl rfl (by rw[e];rfl))
theorem Qzs(n:Int):Fz Tryz.prog Qv 69 [.int .i64 n] fun r=>r= .bool (inR n):=by
 refine Jx Tryz.func69 rfl ?_;simp only[wA,↓Qc,simprocAttr,Tryz.ntmps69];refine W.guardT (fun h=>?_) (fun h=>?_)
 . simp only[wA,↓Qc,simprocAttr,h];exact W.done (Zg.ret rfl rfl (by simp only[inR,GE.ge,h,Zge,Zg4] at*;first|rfl|(simp only[h,Zge,Zg4];rfl)))
 . simp only[wA,↓Qc,simprocAttr,h];exact W.done (Zg.ret rfl rfl (by simp only[inR,GE.ge,h,Zge,Zg4] at*;first|rfl|(simp only[h,Zge,Zg4];rfl)))
theorem Qdm(mt:Nat->Bool)(d:Option Nat)(t:TypeId)(x:V):Qgu Tryz.prog mt d 24 t x=none:=by
 simp only[Qgu,Tryz.underlying24]
 repeat' split
 all_goals first|rfl|simp_all
theorem Qzj(f d:Nat)(h:d<1000)(s:List UInt8):Qgu Tryz.prog (Qv.mt f) (some d) 9 24 (.str s)=none:=by
 have e:Qv.mt f (d+1000000)=false:=by
  have e0:Qv.mt=mtR:=rfl;rw[e0];unfold mtR;rw[if_pos (by omega)];have h1:(d+1000000==5)=false:=by simp
  have h2:(d+1000000==24)=false:=by simp
  have h3:(d+1000000==57)=false:=by simp
  rw[h1,h2,h3];simp
 simp only[Qgu,Tryz.underlying9,Tryz.underlying24,Tryz.underlying5,e];rfl
def Q7(e:Int):V:= .agg [.int .i64 e,.int .i64 0,.nS,.nS,.int .i64 0,.int .u8 0,.int .i64 0,.int .i64 0,.str [],.nS]
theorem Zz(e:Int):Fz Tryz.prog Qv 17 [.int .i64 e] fun r=>r=Q7 e:=by refine Jx Tryz.func17 rfl ?_;simp only[wA,↓Qc,simprocAttr,Tryz.ntmps17,ta,wH,wB];exact W.done (Zg.ret rfl rfl rfl)
theorem Q4k(v:V)(l:List UInt8)(hv:Qx v l)(hl:l.length<=1000000):Fz Tryz.prog Qv 77 [v,.func (.func 49) [] []] fun r=>∃n:Int,r= .int .i64 n/\(decide (0<=n)=l.any Qfq):=by
 refine Jx Tryz.func77 rfl ?_;have len:=hv.len Tryz.underlying24;simp only[wA,↓Qc,simprocAttr,Tryz.ntmps77,len];refine W.ul ?_;refine W.loopS (kt:=[0,1,7,8]) rfl (fun i:Nat=>Q5c v (.func (.func 49) [] []) (.int .i64 l.length) (.int .i64 i)) (fun _=>[[]]) (fun i=>i<=l.length/\(l.take i).any Qfq=false) (fun i=>l.length-i) ?_ 0 ⟨by omega,by simp⟩ rfl rfl;rintro i ⟨hi,hg⟩;simp only[Q5c];by_cases h:i<l.length
 . have c1:decide ((i:Int)<l.length)=true:=Zig (by omega);have at1:=hv.at (k:= .i64) Tryz.underlying24 sz5 (by decide) (i:=(i:Int)) (by omega) (by omega);have get1:(Qp l)[(i:Int).toNat*1]?=some (.int .u8 l[i].toNat):=by simp[Qhr,h]
   have w1:(IntKind.i64).wrap ((i:Int)+1)=((i+1:Nat):Int):=by rw[wrap_i64]<;>omega
   obtain⟨m,rfl,hm⟩:=(bad_fz l[i]).op (by rfl) rfl;have hm' :∀d,_:=fun d=>hm 77 0 d [[]] rfl;simp only[wA,↓Qc,simprocAttr,c1,at1,rd5,get1,hm'];refine W.ite (fun h1=>?_) (fun h1=>?_)
   . simp only[wA,↓Qc,simprocAttr];refine W.done ?_;simp only[wA,↓Qc,simprocAttr];refine W.done (Zg.ret rfl rfl ⟨i,rfl,?_⟩);have:l.any Qfq=true:=List.any_eq_true.2 ⟨l[i],Zg5 h,h1⟩;rw[this];exact Zig (by omega)
   . simp only[wA,↓Qc,simprocAttr,w1];refine W.done ⟨i+1,rfl,rfl,⟨by omega,?_⟩,by omega⟩;rw[Zg6,List.any_append,hg];simp[h,h1]
 . have c1:decide ((i:Int)<l.length)=false:=Zih (by omega);have e:i=l.length:=by omega
   subst e;simp only[wA,↓Qc,simprocAttr,c1];refine W.done ?_;simp only[wA,↓Qc,simprocAttr];refine W.done (Zg.ret rfl rfl ⟨-1,rfl,?_⟩);rw[Zg7] at hg;rw[hg];rfl
theorem Qvd(v:V)(l:List UInt8)(hv:Qx v l)(hl:l.length<=1000000):Fz Tryz.prog Qv 48 [v,.func (.func 49) [] []] fun r=>r= .bool (l.any Qfq):=by refine Jx Tryz.func48 rfl ?_;obtain⟨m,⟨n,rfl,hn⟩,hm⟩:=(Q4k v l hv hl).op (by rfl) (Qt (hv.frz _) rfl);have hm' :∀d,_:=fun d=>hm 48 0 d [[]] rfl;simp only[wA,↓Qc,simprocAttr,Tryz.ntmps48,hm'];exact W.done (Zg.ret rfl rfl (by rw[<-hn];rfl))
theorem Qko(s:List UInt8)(hl:s.length<=1000000):Fz Tryz.prog Qv 18 [.str s] fun r=>r= .int .i64 (Kh s):=by
 refine Jx Tryz.func18 rfl ?_;simp only[wA,↓Qc,simprocAttr,Tryz.ntmps18,ln9];have cv:∀g,convertV Tryz.prog g 9 24 (.str s)=some (.val (.iS (Qp s) s.length false) none):=fun g=>by simp only[convertV,Tryz.underlying9,Tryz.underlying24,Tryz.underlying5]
 obtain⟨m,rfl,hm⟩:=(Qvd _ s (Qx.mk s false) hl).op (by rfl) (Qt rfl rfl);have hm' :∀d,_:=fun d=>hm 18 0 d [[]] rfl;have tk:Qgu Tryz.prog (Qv.mt 18) (some 13) 9 24 (.str s)=none:=by simp only[Qgu,Tryz.underlying9,Tryz.underlying24,Tryz.underlying5];rfl
 have e1:decide ((s.length:Int)<1)=!decide (1<=s.length):=by
  by_cases h:1<=s.length
  . rw[Zig h];exact Zih (by omega)
  . rw[Zih h];exact Zig (by omega)
 have e2:decide ((s.length:Int)>14)=!decide (s.length<=14):=by
  by_cases h:s.length<=14
  . rw[Zig h];exact Zih (by omega)
  . rw[Zih h];exact Zig (by omega)
 refine W.guardF (fun h=>?_) (fun h=>?_)
 . simp only[wA,↓Qc,simprocAttr,h,ln9];refine W.guardF (fun h2=>?_) (fun h2=>?_)
   . simp only[wA,↓Qc,simprocAttr,h,h2,tk,cv,hm'];refine W.ite (fun h3=>?_) (fun h3=>?_)
     . simp only[wA,↓Qc,simprocAttr];exact W.done (Zg.ret rfl rfl (by rw[Kh,X8,h3];simp))
     . simp only[wA,↓Qc,simprocAttr];exact W.done (Zg.ret rfl rfl (by
        rw[e1] at h;rw[e2] at h2;have a1:decide (1<=s.length)=true:=by simpa using h
        have a2:decide (s.length<=14)=true:=by simpa using h2
        rw[Kh,X8,h3,a1,a2];rfl))
   . simp only[wA,↓Qc,simprocAttr,h,h2];exact W.done (Zg.ret rfl rfl (by
      rw[e2] at h2;have a2:decide (s.length<=14)=false:=by simpa using h2
      rw[Kh,X8,a2];simp))
 . simp only[wA,↓Qc,simprocAttr,h];exact W.done (Zg.ret rfl rfl (by
    rw[e1] at h;have a1:decide (1<=s.length)=false:=by simpa using h
    rw[Kh,X8,a1];rfl))
end Go.Proofs.YtmapmgfiamfocaaGreat
namespace Go.Proofs.YtmapmgfiamfocaaGreat
open Go.AM Go.Mod
attribute [local irreducible] U W
def Xt(l:List (Qq×Int)):List (V×V):=l.map fun p=>(.str p.1,.int .i64 p.2)
theorem Qc0(s:List UInt8):∀(l:List (List UInt8×Int)) (i:Nat),findKey (.str s) (Xt l) i=some (match Qhb l s i,Zb l s with|some j,some n=>some (j,.int .i64 n)|_,_=>none)
 |[],i=>rfl
 |p::l,i=>by
  simp only[Xt,Zfn,findKey,Qmx,Qhb,Zb];by_cases h:s=p.1
  . subst h;simp
  . have:(s==p.1)=false:=by simpa using h
    simp only[this,h,if_false];exact Qc0 s l (i+1)
theorem Qku(s:List UInt8):∀(l:List (List UInt8×Int)) (i:Nat),(Qhb l s i).isSome=(Zb l s).isSome
 |[],_=>rfl
 |p::l,i=>by
  simp only[Qhb,Zb];split
  . rfl
  . exact Qku s l (i+1)
theorem Qmc{l:List (Qq×Int)}{s:Qq}(h:Zb l s=none):findKey (.str s) (Xt l) 0=some none:=by rw[Qc0,h];cases Qhb l s 0<;>rfl
theorem Bx{g:Get}{nf ns:Nat}{l:List (List UInt8×Int)}{bs:List Nat}{clk:Nat}(h:g nf ns=some (.map (Xt l) bs clk))(s:List UInt8):
 Bu Tryz.prog g 69 (.map nf ns) (.str s) true=some (.tuple [.int .i64 ((Zb l s).getD 0),.bool (Zb l s).isSome]):=by
 have z:zer Tryz.prog 3=some (.int .i64 0):=by kernel_rfl
 simp only[Bu,Tryz.underlying69,Tryz.underlying9,z,Yo,if_true,h,Qc0];have:=Qku s l 0;cases h1:Zb l s with
 |none=>
  rw[h1] at this;cases h2:Qhb l s 0 with
  |none=>rfl
  |some j=>rw[h2] at this;cases this
 |some n=>
  rw[h1] at this;cases h2:Qhb l s 0 with
  |none=>rw[h2] at this;cases this
  |some j=>rfl
theorem Q11{g:Get}{nf ns:Nat}{l:List (List UInt8×Int)}{bs:List Nat}{clk:Nat}(h:g nf ns=some (.map (Xt l) bs clk)):Qaw Tryz.prog g 69 (.map nf ns)=some (.int .i64 l.length):=by simp only[Qaw,Tryz.underlying69,h,Xt,Zgu]
structure Ob where
 kind:Int
 links:Int
 data:V
def Ob.cells(o:Ob):List V:=[.int .u8 o.kind,.int .i64 o.links,o.data]
def obs(l:List Ob):List V:=l.flatMap Ob.cells
theorem Qcn:∀l:List Ob,(obs l).length=l.length*3
 |[]=>rfl
 |o::l=>by simp only[obs,List.flatMap_cons,Zfv,Zgz];rw[show(List.flatMap Ob.cells l).length=l.length*3 from Qcn l];simp[Ob.cells];omega
theorem Qhh(o:Ob)(l:List Ob):obs (o::l)= .int .u8 o.kind:: .int .i64 o.links::o.data::obs l:=rfl
theorem Qnp:∀(l:List Ob) (i:Nat) (o:Ob),l[i]?=some o->∀j,j<3->(obs l)[i*3+j]?=o.cells[j]?
 |[],i,o,h,_,_=>by simp at h
 |x::l,0,o,h,j,hj=>by
  simp only[Zg8,Zic] at h;subst h;simp only[obs,List.flatMap_cons,Nat.zero_mul,Zff];rw[Zfy (by simp[Ob.cells];omega)]
 |x::l,i+1,o,h,j,hj=>by
  simp only[Zg9] at h;simp only[obs,List.flatMap_cons];rw[Zfz (by simp[Ob.cells];omega)];have:(i+1)*3+j-(Ob.cells x).length=i*3+j:=by simp[Ob.cells];omega
  rw[this];exact Qnp l i o h j hj
theorem Quw:∀(l:List Ob) (i:Nat) (o:Ob),l[i]?=some o->((obs l).drop (i*3)).take 3=o.cells
 |[],i,o,h=>by simp at h
 |x::l,0,o,h=>by
  simp only[Zg8,Zic] at h;subst h;rfl
 |x::l,i+1,o,h=>by
  simp only[Zg9] at h;rw[Qhh,show(i+1)*3=i*3+1+1+1 by omega];exact Quw l i o h
theorem Qpi:∀(l:List Ob) (i:Nat) (o o' :Ob),l[i]?=some o->splice (obs l) (i*3) o'.cells=obs (l.set i o')
 |[],i,o,_,h=>by simp at h
 |x::l,0,o,o',h=>rfl
 |x::l,i+1,o,o',h=>by
  simp only[Zg9] at h;have ih:=Qpi l i o o' h;simp only[Zha,Qhh,show(i+1)*3=i*3+1+1+1 by omega];rw[<-ih];unfold splice;simp only[Zhb,Zgh,List.cons.injEq,true_and];rw[show i*3+1+1+1+o'.cells.length=(i*3+o'.cells.length)+1+1+1 by omega];rfl
theorem Qrr:∀(l:List Ob) (i:Nat) (o:Ob) (n:Int),l[i]?=some o->splice (obs l) (i*3+1) [.int .i64 n]=obs (l.set i {o with links:=n})
 |[],i,o,_,h=>by simp at h
 |x::l,0,o,n,h=>by
  simp only[Zg8,Zic] at h;subst h;rfl
 |x::l,i+1,o,n,h=>by
  simp only[Zg9] at h;have ih:=Qrr l i o n h;simp only[Zha,Qhh,show(i+1)*3=i*3+1+1+1 by omega];rw[<-ih];unfold splice;simp only[Zhb,Zgh,List.cons.injEq,true_and,Zgz,Zg2];rfl
theorem Qug:∀(l:List Ob) (i:Nat) (o:Ob) (v:V),l[i]?=some o->splice (obs l) (i*3+2) [v]=obs (l.set i {o with data:=v})
 |[],i,o,_,h=>by simp at h
 |x::l,0,o,n,h=>by
  simp only[Zg8,Zic] at h;subst h;rfl
 |x::l,i+1,o,n,h=>by
  simp only[Zg9] at h;have ih:=Qug l i o n h;simp only[Zha,Qhh,show(i+1)*3=i*3+1+1+1 by omega];rw[<-ih];unfold splice;simp only[Zhb,Zgh,List.cons.injEq,true_and,Zgz,Zg2];rfl
theorem Qh9{g:Get}{v:V}{l:List UInt8}(hv:Qx v l):convertV Tryz.prog g 24 9 v=some (.val (.str l) none):=by
 have h:=Ql.sc (g:=g) hv;have hb:=Qgr l;have hu:∀x,convertV Tryz.prog g 24 9 x=(match Z3 g 1 x with|some (cs,_)=>(bytesOf cs).map fun l=> .val (.str l) none|none=>none):=by intro x;simp only[convertV,Tryz.underlying24,Tryz.underlying9,Tryz.underlying5];cases x<;>rfl
 rw[hu,h];simp only[hb,Ze4]
structure Loc where
 f:Nat
 s:Nat
 nf:Nat
 ns:Nat
 kf:Nat
 ks:Nat
def Zd(a:Loc)(sn:Bool)(ow pr:Int)(l:List Ob):List V:= .bool sn:: .int .i64 ow:: .int .i64 pr:: .ptr a.kf a.ks 0:: .map a.nf a.ns::obs l
section
variable {a : Loc} {sn : Bool} {ow pr : Int} {l : List Ob} {i : Nat} {o o' : Ob}
theorem Jn:(Zd a sn ow pr l)[0]?=some (.bool sn):=rfl
theorem Jr:(Zd a sn ow pr l)[1]?=some (.int .i64 ow):=rfl
theorem Jo:(Zd a sn ow pr l)[2]?=some (.int .i64 pr):=rfl
theorem J8:(Zd a sn ow pr l)[3]?=some (.ptr a.kf a.ks 0):=rfl
theorem J0:(Zd a sn ow pr l)[4]?=some (.map a.nf a.ns):=rfl
theorem By:(Zd a sn ow pr l).length=l.length*3+5:=by simp[Zd,Qcn]
theorem Qtd(h:l[i]?=some o):(Zd a sn ow pr l)[5+i*3]?=some (.int .u8 o.kind):=by rw[show 5+i*3=i*3+0+1+1+1+1+1 by omega];exact Qnp l i o h 0 (by omega)
theorem Qke(h:l[i]?=some o):(Zd a sn ow pr l)[5+i*3+1]?=some (.int .i64 o.links):=by rw[show 5+i*3+1=i*3+1+1+1+1+1+1 by omega];exact Qnp l i o h 1 (by omega)
theorem Qgc(h:l[i]?=some o):(Zd a sn ow pr l)[5+i*3+2]?=some o.data:=by rw[show 5+i*3+2=i*3+2+1+1+1+1+1 by omega];exact Qnp l i o h 2 (by omega)
theorem lc_ob(h:l[i]?=some o):((Zd a sn ow pr l).drop (5+i*3)).take 3=o.cells:=by rw[show 5+i*3=i*3+1+1+1+1+1 by omega];exact Quw l i o h
theorem Qjg{x0 x1 x2 x3 x4:V}{xs cs:List V}{k:Nat}:splice (x0::x1::x2::x3::x4::xs) (k+5) cs=x0::x1::x2::x3::x4::splice xs k cs:=by unfold splice;simp only[Zhb,Zgh];rw[show k+5+cs.length=(k+cs.length)+1+1+1+1+1 by omega];rfl
theorem Q3i(h:l[i]?=some o):splice (Zd a sn ow pr l) (5+i*3) o'.cells=Zd a sn ow pr (l.set i o'):=by rw[show 5+i*3=i*3+5 by omega,Zd,Qjg,Qpi l i o o' h];rfl
theorem Qt6(h:l[i]?=some o)(n:Int):splice (Zd a sn ow pr l) (5+i*3+1) [.int .i64 n]=Zd a sn ow pr (l.set i {o with links:=n}):=by rw[show 5+i*3+1=i*3+1+5 by omega,Zd,Qjg,Qrr l i o n h];rfl
theorem Qp1(h:l[i]?=some o)(v:V):splice (Zd a sn ow pr l) (5+i*3+2) [v]=Zd a sn ow pr (l.set i {o with data:=v}):=by rw[show 5+i*3+2=i*3+2+5 by omega,Zd,Qjg,Qug l i o v h];rfl
end
theorem Yw{α:Type}{l:List α}{i:Nat}{o:α}(h:l[i]?=some o):i<l.length:=(Zf0.1 h).1
section
variable {a : Loc} {sn : Bool} {ow pr : Int} {l : List Ob} {i f s : Nat} {o : Ob}
theorem Qob(h:l[i]?=some o){n:Int}:stO 1 f s (5+i*3+1) [.int .i64 n] (some (.cells (Zd a sn ow pr l)))=some (.val .bad (some (f,s,.cells (Zd a sn ow pr (l.set i {o with links:=n}))))):=by have:=Yw h;rw[B8,if_pos ⟨rfl,by rw[By];omega⟩,Qt6 h]
theorem Qto(h:l[i]?=some o){v:V}:stO 1 f s (5+i*3+2) [v] (some (.cells (Zd a sn ow pr l)))=some (.val .bad (some (f,s,.cells (Zd a sn ow pr (l.set i {o with data:=v}))))):=by have:=Yw h;rw[B8,if_pos ⟨rfl,by rw[By];omega⟩,Qp1 h]
theorem st_ob(h:l[i]?=some o){k n:Int}{v:V}:stO 3 f s (5+i*3) [.int .u8 k,.int .i64 n,v] (some (.cells (Zd a sn ow pr l)))=some (.val .bad (some (f,s,.cells (Zd a sn ow pr (l.set i ⟨k,n,v⟩))))):=by have:=Yw h;rw[B8,if_pos ⟨rfl,by rw[By];simp;omega⟩];rw[show([.int .u8 k,.int .i64 n,v]:List V)=Ob.cells ⟨k,n,v⟩ from rfl,Q3i h]
theorem Qzq{b:Bool}:stO 1 f s 0 [.bool b] (some (.cells (Zd a sn ow pr l)))=some (.val .bad (some (f,s,.cells (Zd a b ow pr l)))):=by rw[B8,if_pos ⟨rfl,by rw[By];omega⟩];rfl
theorem Qv6{n:Int}:stO 1 f s 1 [.int .i64 n] (some (.cells (Zd a sn ow pr l)))=some (.val .bad (some (f,s,.cells (Zd a sn n pr l)))):=by rw[B8,if_pos ⟨rfl,by rw[By];omega⟩];rfl
theorem Qnr{n:Int}:stO 1 f s 2 [.int .i64 n] (some (.cells (Zd a sn ow pr l)))=some (.val .bad (some (f,s,.cells (Zd a sn ow n l)))):=by rw[B8,if_pos ⟨rfl,by rw[By];omega⟩];rfl
theorem ra_ob(h:l[i]?=some o):Zf Tryz.prog 71 (Zd a sn ow pr l) (5+i*3)=some (.agg o.cells):=by have:=Yw h;rw[rd71,if_pos (by rw[By];omega),lc_ob h]
end
def Ob.is(o:Ob)(p:Bw):Prop:=o.kind=p.kind/\o.links=p.links/\Qx o.data p.data
structure Qfa(l:List Ob)(m:List Bw):Prop where
 len:l.length=m.length
 get:∀(i:Nat) (o:Ob) (p:Bw),l[i]?=some o->m[i]?=some p->o.is p
theorem Qfa.at_{l:List Ob}{m:List Bw}(h:Qfa l m){i:Nat}{p:Bw}(hp:m[i]?=some p):∃o,l[i]?=some o/\o.is p:=by
 have hi:i<m.length:=(Zf0.1 hp).1;have hl:i<l.length:=by rw[h.len];exact hi
 exact⟨l[i],Ze3 hl,h.get i _ p (Ze3 hl) hp⟩
theorem Qfa.set{l:List Ob}{m:List Bw}(h:Qfa l m)(i:Nat){o:Ob}{p:Bw}(hp:o.is p):Qfa (l.set i o) (m.set i p):=by
 refine⟨by simp[h.len],fun j o' p' h1 h2=>?_⟩;rw[List.getElem?_set] at h1 h2;by_cases e:i=j
 . subst e;simp only[if_true] at h1 h2;split at h1
   . split at h2
     . cases h1;cases h2;exact hp
     . cases h2
   . cases h1
 . simp only[e,if_false] at h1 h2;exact h.get j o' p' h1 h2
structure Qft(n:Nat)(bs:List Nat)(clk:Nat):Prop where
 len:bs.length=n
 uniq:bs.Nodup
 lt:∀b∈bs,b<clk
theorem Qft.add{n clk:Nat}{bs:List Nat}(h:Qft n bs clk):Qft (n+1) (bs++[clk]) (clk+1):=by
 refine⟨by simp[h.len],?_,?_⟩
 . rw[Zgx];refine⟨h.uniq,by simp,?_⟩;intro a ha b hb;have:=h.lt a ha;simp at hb;omega
 . intro b hb;rcases Zfw.1 hb with q|q
   . have:=h.lt b q;omega
   . simp at q;omega
theorem Qft.erase{n clk:Nat}{bs:List Nat}(h:Qft (n+1) bs clk){i:Nat}(hi:i<n+1):Qft n (bs.eraseIdx i) clk:=by refine⟨by rw[List.length_eraseIdx,h.len,if_pos hi];omega,h.uniq.sublist (List.eraseIdx_sublist bs i),fun b hb=>h.lt b (List.mem_of_mem_eraseIdx hb)⟩
structure Xi(H:Qg)(a:Loc)(L:Qe)(l:List Ob)(bs:List Nat)(clk:Nat):Prop where
 obs:Qfa l L.objs
 cells:Qd H a.f a.s=some (.cells (Zd a L.snap L.owner L.prev l))
 names:Qd H a.nf a.ns=some (.map (Xt L.names) bs clk)
 born:Qft L.names.length bs clk
def Yn(H:Qg)(a:Loc)(L:Qe):Prop:=∃l bs clk,Xi H a L l bs clk
theorem Xi.ne1{H:Qg}{a:Loc}{L:Qe}{l:List Ob}{bs:List Nat}{clk:Nat}(h:Xi H a L l bs clk):¬(a.f=a.nf/\a.s=a.ns):=Ya h.cells h.names
theorem Xi.ne2{H:Qg}{a:Loc}{L:Qe}{l:List Ob}{bs:List Nat}{clk:Nat}(h:Xi H a L l bs clk):¬(a.nf=a.f/\a.ns=a.s):=B7 h.cells h.names
end Go.Proofs.YtmapmgfiamfocaaGreat
end
