/- This file holds in one the texts DF; each says at its head what it proves. -/
import Derived.Test.YtidniacddkalaaaGreatDoorT17
import Derived.Test.YtidniacddkalaaaGreatDoorT29
set_option linter.unusedSimpArgs false
set_option linter.unusedVariables false
namespace Go.Proofs.YtidniacddkalaaaGreatDoor
section
set_option maxRecDepth 100000
open Go.AM
theorem sz3:sz Tryz.prog 3=some 1:=by kernel_rfl
theorem zc3:zeroCells Tryz.prog 3=some [.int .i64 0]:=by kernel_rfl
theorem rd3(cs:List V)(o:Nat):Qn Tryz.prog 3 cs o=cs[o]?:=Ku Tryz.underlying3 sz3 rfl cs o
theorem sz4:sz Tryz.prog 4=some 1:=by kernel_rfl
theorem zc4:zeroCells Tryz.prog 4=some [.bool false]:=by kernel_rfl
theorem rd4(cs:List V)(o:Nat):Qn Tryz.prog 4 cs o=cs[o]?:=Ku Tryz.underlying4 sz4 rfl cs o
theorem sz5:sz Tryz.prog 5=some 1:=by kernel_rfl
theorem zc5:zeroCells Tryz.prog 5=some [.int .u8 0]:=by kernel_rfl
theorem rd5(cs:List V)(o:Nat):Qn Tryz.prog 5 cs o=cs[o]?:=Ku Tryz.underlying5 sz5 rfl cs o
theorem sz9:sz Tryz.prog 9=some 1:=by kernel_rfl
theorem zc9:zeroCells Tryz.prog 9=some [.str []]:=by kernel_rfl
theorem rd9(cs:List V)(o:Nat):Qn Tryz.prog 9 cs o=cs[o]?:=Ku Tryz.underlying9 sz9 rfl cs o
theorem ln9(g:Get)(s:List UInt8):Y4 Tryz.prog g 9 (.str s)=some (.int .i64 s.length):=ln_str Tryz.underlying9 s
theorem sz21:sz Tryz.prog 21=some 1:=by kernel_rfl
theorem zc21:zeroCells Tryz.prog 21=some [.int .i32 0]:=by kernel_rfl
theorem rd21(cs:List V)(o:Nat):Qn Tryz.prog 21 cs o=cs[o]?:=Ku Tryz.underlying21 sz21 rfl cs o
theorem sz22:sz Tryz.prog 22=some 1:=by kernel_rfl
theorem zc22:zeroCells Tryz.prog 22=some [.nS]:=by kernel_rfl
theorem rd22(cs:List V)(o:Nat):Qn Tryz.prog 22 cs o=cs[o]?:=Ku Tryz.underlying22 sz22 rfl cs o
theorem ln22(g:Get)(cs:List V)(len:Nat)(full:Bool):Y4 Tryz.prog g 22 (.iS cs len full)=some (.int .i64 len):=Bx Tryz.underlying22 cs len full
theorem lnn22(g:Get):Y4 Tryz.prog g 22 .nS=some (.int .i64 0):=Qeo Tryz.underlying22
theorem sz23:sz Tryz.prog 23=some 1:=by kernel_rfl
theorem zc23:zeroCells Tryz.prog 23=some [.nS]:=by kernel_rfl
theorem rd23(cs:List V)(o:Nat):Qn Tryz.prog 23 cs o=cs[o]?:=Ku Tryz.underlying23 sz23 rfl cs o
theorem ln23(g:Get)(cs:List V)(len:Nat)(full:Bool):Y4 Tryz.prog g 23 (.iS cs len full)=some (.int .i64 len):=Bx Tryz.underlying23 cs len full
theorem lnn23(g:Get):Y4 Tryz.prog g 23 .nS=some (.int .i64 0):=Qeo Tryz.underlying23
theorem sz25:sz Tryz.prog 25=some 2:=by kernel_rfl
theorem zc25:zeroCells Tryz.prog 25=some [.nS,.nS]:=by kernel_rfl
theorem rd25(cs:List V)(o:Nat):Qn Tryz.prog 25 cs o=if o+2<=cs.length then some (.agg ((cs.drop o).take 2)) else none:=Qdz Tryz.underlying25 sz25 rfl cs o
theorem fo25_0:Ym Tryz.prog 25 0=some (0,22):=by kernel_rfl
theorem ff25_0:Yn Tryz.prog 25 0=some (0,22):=by kernel_rfl
theorem fo25_1:Ym Tryz.prog 25 1=some (1,23):=by kernel_rfl
theorem ff25_1:Yn Tryz.prog 25 1=some (1,23):=by kernel_rfl
theorem bv25(parts:List (Nat×V)):K4 Tryz.prog 25 parts=(Bp (fun i=>([(0,1),(1,1)]:List (Nat×Nat))[i]?) [.nS,.nS] parts).map .agg:=Qji zc25 (by kernel_rfl) parts
theorem Qew:sz Tryz.prog 26=some 1:=by kernel_rfl
theorem zc26:zeroCells Tryz.prog 26=some [.nS]:=by kernel_rfl
theorem rd26(cs:List V)(o:Nat):Qn Tryz.prog 26 cs o=cs[o]?:=Ku Tryz.underlying26 Qew rfl cs o
theorem ln26(g:Get)(cs:List V)(len:Nat)(full:Bool):Y4 Tryz.prog g 26 (.iS cs len full)=some (.int .i64 len):=Bx Tryz.underlying26 cs len full
theorem lnn26(g:Get):Y4 Tryz.prog g 26 .nS=some (.int .i64 0):=Qeo Tryz.underlying26
theorem Qtd:sz Tryz.prog 27=some 1:=by kernel_rfl
theorem zc27:zeroCells Tryz.prog 27=some [.int .u32 0]:=by kernel_rfl
theorem rd27(cs:List V)(o:Nat):Qn Tryz.prog 27 cs o=cs[o]?:=Ku Tryz.underlying27 Qtd rfl cs o
theorem sz29:sz Tryz.prog 29=some 5:=by kernel_rfl
theorem zc29:zeroCells Tryz.prog 29=some [.nS,.nS,.nS,.int .u32 0,.int .u32 0]:=by kernel_rfl
theorem rd29(cs:List V)(o:Nat):Qn Tryz.prog 29 cs o=if o+5<=cs.length then some (.agg ((cs.drop o).take 5)) else none:=Qdz Tryz.underlying29 sz29 rfl cs o
theorem fo29_0:Ym Tryz.prog 29 0=some (0,25):=by kernel_rfl
theorem ff29_0:Yn Tryz.prog 29 0=some (0,25):=by kernel_rfl
theorem fo29_1:Ym Tryz.prog 29 1=some (2,26):=by kernel_rfl
theorem ff29_1:Yn Tryz.prog 29 1=some (2,26):=by kernel_rfl
theorem fo29_2:Ym Tryz.prog 29 2=some (3,27):=by kernel_rfl
theorem ff29_2:Yn Tryz.prog 29 2=some (3,27):=by kernel_rfl
theorem fo29_3:Ym Tryz.prog 29 3=some (4,27):=by kernel_rfl
theorem ff29_3:Yn Tryz.prog 29 3=some (4,27):=by kernel_rfl
theorem bv29(parts:List (Nat×V)):K4 Tryz.prog 29 parts=(Bp (fun i=>([(0,2),(2,1),(3,1),(4,1)]:List (Nat×Nat))[i]?) [.nS,.nS,.nS,.int .u32 0,.int .u32 0] parts).map .agg:=Qji zc29 (by kernel_rfl) parts
theorem Qqa:sz Tryz.prog 31=some 5:=by kernel_rfl
theorem zc31:zeroCells Tryz.prog 31=some [.int .i64 0,.int .u32 0,.int .u32 0,.int .u32 0,.int .u32 0]:=by kernel_rfl
theorem rd31(cs:List V)(o:Nat):Qn Tryz.prog 31 cs o=if o+5<=cs.length then some (.agg ((cs.drop o).take 5)) else none:=Qdz Tryz.underlying31 Qqa rfl cs o
theorem fo31_0:Ym Tryz.prog 31 0=some (0,3):=by kernel_rfl
theorem ff31_0:Yn Tryz.prog 31 0=some (0,3):=by kernel_rfl
theorem fo31_1:Ym Tryz.prog 31 1=some (1,27):=by kernel_rfl
theorem ff31_1:Yn Tryz.prog 31 1=some (1,27):=by kernel_rfl
theorem fo31_2:Ym Tryz.prog 31 2=some (2,27):=by kernel_rfl
theorem ff31_2:Yn Tryz.prog 31 2=some (2,27):=by kernel_rfl
theorem fo31_3:Ym Tryz.prog 31 3=some (3,27):=by kernel_rfl
theorem ff31_3:Yn Tryz.prog 31 3=some (3,27):=by kernel_rfl
theorem fo31_4:Ym Tryz.prog 31 4=some (4,27):=by kernel_rfl
theorem ff31_4:Yn Tryz.prog 31 4=some (4,27):=by kernel_rfl
theorem bv31(parts:List (Nat×V)):K4 Tryz.prog 31 parts=(Bp (fun i=>([(0,1),(1,1),(2,1),(3,1),(4,1)]:List (Nat×Nat))[i]?) [.int .i64 0,.int .u32 0,.int .u32 0,.int .u32 0,.int .u32 0] parts).map .agg:=Qji zc31 (by kernel_rfl) parts
theorem sz32:sz Tryz.prog 32=some 1:=by kernel_rfl
theorem zc32:zeroCells Tryz.prog 32=some [.nS]:=by kernel_rfl
theorem rd32(cs:List V)(o:Nat):Qn Tryz.prog 32 cs o=cs[o]?:=Ku Tryz.underlying32 sz32 rfl cs o
theorem ln32(g:Get)(cs:List V)(len:Nat)(full:Bool):Y4 Tryz.prog g 32 (.iS cs len full)=some (.int .i64 len):=Bx Tryz.underlying32 cs len full
theorem lnn32(g:Get):Y4 Tryz.prog g 32 .nS=some (.int .i64 0):=Qeo Tryz.underlying32
theorem sz33:sz Tryz.prog 33=some 1:=by kernel_rfl
theorem zc33:zeroCells Tryz.prog 33=some [.nS]:=by kernel_rfl
theorem Qrv(cs:List V)(o:Nat):Qn Tryz.prog 33 cs o=cs[o]?:=Ku Tryz.underlying33 sz33 rfl cs o
theorem ln33(g:Get)(cs:List V)(len:Nat)(full:Bool):Y4 Tryz.prog g 33 (.iS cs len full)=some (.int .i64 len):=Bx Tryz.underlying33 cs len full
theorem lnn33(g:Get):Y4 Tryz.prog g 33 .nS=some (.int .i64 0):=Qeo Tryz.underlying33
theorem sz34:sz Tryz.prog 34=some 1:=by kernel_rfl
theorem zc34:zeroCells Tryz.prog 34=some [.nS]:=by kernel_rfl
theorem Qx8(cs:List V)(o:Nat):Qn Tryz.prog 34 cs o=cs[o]?:=Ku Tryz.underlying34 sz34 rfl cs o
theorem ln34(g:Get)(cs:List V)(len:Nat)(full:Bool):Y4 Tryz.prog g 34 (.iS cs len full)=some (.int .i64 len):=Bx Tryz.underlying34 cs len full
theorem lnn34(g:Get):Y4 Tryz.prog g 34 .nS=some (.int .i64 0):=Qeo Tryz.underlying34
theorem sz36:sz Tryz.prog 36=some 19:=by kernel_rfl
theorem zc36:zeroCells Tryz.prog 36=some [.nS,.nS,.nS,.int .u32 0,.int .u32 0,.int .u32 0,.int .i64 0,.int .u32 0,.int .u32 0,.int .u32 0,.int .u32 0,.nS,.nS,.nS,.nS,.nS,.int .i64 0,.int .i64 0,.int .u32 0]:=by kernel_rfl
theorem rd36(cs:List V)(o:Nat):Qn Tryz.prog 36 cs o=if o+19<=cs.length then some (.agg ((cs.drop o).take 19)) else none:=Qdz Tryz.underlying36 sz36 rfl cs o
theorem fo36_0:Ym Tryz.prog 36 0=some (0,29):=by kernel_rfl
theorem ff36_0:Yn Tryz.prog 36 0=some (0,29):=by kernel_rfl
theorem fo36_1:Ym Tryz.prog 36 1=some (5,27):=by kernel_rfl
theorem ff36_1:Yn Tryz.prog 36 1=some (5,27):=by kernel_rfl
theorem fo36_2:Ym Tryz.prog 36 2=some (6,31):=by kernel_rfl
theorem ff36_2:Yn Tryz.prog 36 2=some (6,31):=by kernel_rfl
theorem fo36_3:Ym Tryz.prog 36 3=some (11,32):=by kernel_rfl
theorem ff36_3:Yn Tryz.prog 36 3=some (11,32):=by kernel_rfl
theorem fo36_4:Ym Tryz.prog 36 4=some (12,33):=by kernel_rfl
theorem ff36_4:Yn Tryz.prog 36 4=some (12,33):=by kernel_rfl
theorem fo36_5:Ym Tryz.prog 36 5=some (13,22):=by kernel_rfl
theorem ff36_5:Yn Tryz.prog 36 5=some (13,22):=by kernel_rfl
theorem fo36_6:Ym Tryz.prog 36 6=some (14,22):=by kernel_rfl
theorem ff36_6:Yn Tryz.prog 36 6=some (14,22):=by kernel_rfl
theorem fo36_7:Ym Tryz.prog 36 7=some (15,34):=by kernel_rfl
theorem ff36_7:Yn Tryz.prog 36 7=some (15,34):=by kernel_rfl
theorem fo36_8:Ym Tryz.prog 36 8=some (16,3):=by kernel_rfl
theorem ff36_8:Yn Tryz.prog 36 8=some (16,3):=by kernel_rfl
theorem fo36_9:Ym Tryz.prog 36 9=some (17,3):=by kernel_rfl
theorem ff36_9:Yn Tryz.prog 36 9=some (17,3):=by kernel_rfl
theorem Zc8:Ym Tryz.prog 36 10=some (18,27):=by kernel_rfl
theorem Zer:Yn Tryz.prog 36 10=some (18,27):=by kernel_rfl
theorem bv36(parts:List (Nat×V)):K4 Tryz.prog 36 parts=(Bp (fun i=>([(0,5),(5,1),(6,5),(11,1),(12,1),(13,1),(14,1),(15,1),(16,1),(17,1),(18,1)]:List (Nat×Nat))[i]?) [.nS,.nS,.nS,.int .u32 0,.int .u32 0,.int .u32 0,.int .i64 0,.int .u32 0,.int .u32 0,.int .u32 0,.int .u32 0,.nS,.nS,.nS,.nS,.nS,.int .i64 0,.int .i64 0,.int .u32 0] parts).map .agg:=Qji zc36 (by kernel_rfl) parts
theorem sz39:sz Tryz.prog 39=some 1:=by kernel_rfl
theorem zc39:zeroCells Tryz.prog 39=some [.nS]:=by kernel_rfl
theorem rd39(cs:List V)(o:Nat):Qn Tryz.prog 39 cs o=cs[o]?:=Ku Tryz.underlying39 sz39 rfl cs o
theorem ln39(g:Get)(cs:List V)(len:Nat)(full:Bool):Y4 Tryz.prog g 39 (.iS cs len full)=some (.int .i64 len):=Bx Tryz.underlying39 cs len full
theorem lnn39(g:Get):Y4 Tryz.prog g 39 .nS=some (.int .i64 0):=Qeo Tryz.underlying39
theorem sz40:sz Tryz.prog 40=some 1:=by kernel_rfl
theorem zc40:zeroCells Tryz.prog 40=some [.int .i64 0]:=by kernel_rfl
theorem rd40(cs:List V)(o:Nat):Qn Tryz.prog 40 cs o=cs[o]?:=Ku Tryz.underlying40 sz40 rfl cs o
theorem Ql8:sz Tryz.prog 46=some 2:=by kernel_rfl
theorem zc46:zeroCells Tryz.prog 46=some [.str [],.int .i64 0]:=by kernel_rfl
theorem rd46(cs:List V)(o:Nat):Qn Tryz.prog 46 cs o=if o+2<=cs.length then some (.agg ((cs.drop o).take 2)) else none:=Qdz Tryz.underlying46 Ql8 rfl cs o
theorem fo46_0:Ym Tryz.prog 46 0=some (0,9):=by kernel_rfl
theorem ff46_0:Yn Tryz.prog 46 0=some (0,9):=by kernel_rfl
theorem fo46_1:Ym Tryz.prog 46 1=some (1,3):=by kernel_rfl
theorem ff46_1:Yn Tryz.prog 46 1=some (1,3):=by kernel_rfl
theorem bv46(parts:List (Nat×V)):K4 Tryz.prog 46 parts=(Bp (fun i=>([(0,1),(1,1)]:List (Nat×Nat))[i]?) [.str [],.int .i64 0] parts).map .agg:=Qji zc46 (by kernel_rfl) parts
theorem sz55:sz Tryz.prog 55=some 1:=by kernel_rfl
theorem zc55:zeroCells Tryz.prog 55=some [.nS]:=by kernel_rfl
theorem rd55(cs:List V)(o:Nat):Qn Tryz.prog 55 cs o=cs[o]?:=Ku Tryz.underlying55 sz55 rfl cs o
theorem ln55(g:Get)(cs:List V)(len:Nat)(full:Bool):Y4 Tryz.prog g 55 (.iS cs len full)=some (.int .i64 len):=Bx Tryz.underlying55 cs len full
theorem lnn55(g:Get):Y4 Tryz.prog g 55 .nS=some (.int .i64 0):=Qeo Tryz.underlying55
theorem Qnt:sz Tryz.prog 57=some 13:=by kernel_rfl
theorem zc57:zeroCells Tryz.prog 57=some [.int .i64 0,.int .u8 0,.int .i64 0,.int .i64 0,.int .u32 0,.int .u32 0,.int .i64 0,.int .i64 0,.int .u32 0,.int .u32 0,.int .u32 0,.int .u32 0,.nS]:=by kernel_rfl
theorem rd57(cs:List V)(o:Nat):Qn Tryz.prog 57 cs o=if o+13<=cs.length then some (.agg ((cs.drop o).take 13)) else none:=Qdz Tryz.underlying57 Qnt rfl cs o
theorem fo57_0:Ym Tryz.prog 57 0=some (0,3):=by kernel_rfl
theorem ff57_0:Yn Tryz.prog 57 0=some (0,3):=by kernel_rfl
theorem fo57_1:Ym Tryz.prog 57 1=some (1,5):=by kernel_rfl
theorem ff57_1:Yn Tryz.prog 57 1=some (1,5):=by kernel_rfl
theorem fo57_2:Ym Tryz.prog 57 2=some (2,3):=by kernel_rfl
theorem ff57_2:Yn Tryz.prog 57 2=some (2,3):=by kernel_rfl
theorem fo57_3:Ym Tryz.prog 57 3=some (3,3):=by kernel_rfl
theorem ff57_3:Yn Tryz.prog 57 3=some (3,3):=by kernel_rfl
theorem fo57_4:Ym Tryz.prog 57 4=some (4,27):=by kernel_rfl
theorem ff57_4:Yn Tryz.prog 57 4=some (4,27):=by kernel_rfl
theorem fo57_5:Ym Tryz.prog 57 5=some (5,27):=by kernel_rfl
theorem ff57_5:Yn Tryz.prog 57 5=some (5,27):=by kernel_rfl
theorem fo57_6:Ym Tryz.prog 57 6=some (6,3):=by kernel_rfl
theorem ff57_6:Yn Tryz.prog 57 6=some (6,3):=by kernel_rfl
theorem fo57_7:Ym Tryz.prog 57 7=some (7,31):=by kernel_rfl
theorem ff57_7:Yn Tryz.prog 57 7=some (7,31):=by kernel_rfl
theorem fo57_8:Ym Tryz.prog 57 8=some (12,55):=by kernel_rfl
theorem ff57_8:Yn Tryz.prog 57 8=some (12,55):=by kernel_rfl
theorem bv57(parts:List (Nat×V)):K4 Tryz.prog 57 parts=(Bp (fun i=>([(0,1),(1,1),(2,1),(3,1),(4,1),(5,1),(6,1),(7,5),(12,1)]:List (Nat×Nat))[i]?) [.int .i64 0,.int .u8 0,.int .i64 0,.int .i64 0,.int .u32 0,.int .u32 0,.int .i64 0,.int .i64 0,.int .u32 0,.int .u32 0,.int .u32 0,.int .u32 0,.nS] parts).map .agg:=Qji zc57 (by kernel_rfl) parts
theorem Qzq:sz Tryz.prog 59=some 12:=by kernel_rfl
theorem zc59:zeroCells Tryz.prog 59=some [.int .i64 0,.int .i64 0,.int .i64 0,.int .u8 0,.int .i64 0,.int .i64 0,.nS,.int .i64 0,.int .u32 0,.int .u32 0,.int .u32 0,.int .u32 0]:=by kernel_rfl
theorem rd59(cs:List V)(o:Nat):Qn Tryz.prog 59 cs o=if o+12<=cs.length then some (.agg ((cs.drop o).take 12)) else none:=Qdz Tryz.underlying59 Qzq rfl cs o
theorem fo59_0:Ym Tryz.prog 59 0=some (0,3):=by kernel_rfl
theorem ff59_0:Yn Tryz.prog 59 0=some (0,3):=by kernel_rfl
theorem fo59_1:Ym Tryz.prog 59 1=some (1,3):=by kernel_rfl
theorem ff59_1:Yn Tryz.prog 59 1=some (1,3):=by kernel_rfl
theorem fo59_2:Ym Tryz.prog 59 2=some (2,3):=by kernel_rfl
theorem ff59_2:Yn Tryz.prog 59 2=some (2,3):=by kernel_rfl
theorem fo59_3:Ym Tryz.prog 59 3=some (3,5):=by kernel_rfl
theorem ff59_3:Yn Tryz.prog 59 3=some (3,5):=by kernel_rfl
theorem fo59_4:Ym Tryz.prog 59 4=some (4,3):=by kernel_rfl
theorem ff59_4:Yn Tryz.prog 59 4=some (4,3):=by kernel_rfl
theorem fo59_5:Ym Tryz.prog 59 5=some (5,3):=by kernel_rfl
theorem ff59_5:Yn Tryz.prog 59 5=some (5,3):=by kernel_rfl
theorem fo59_6:Ym Tryz.prog 59 6=some (6,26):=by kernel_rfl
theorem ff59_6:Yn Tryz.prog 59 6=some (6,26):=by kernel_rfl
theorem fo59_7:Ym Tryz.prog 59 7=some (7,31):=by kernel_rfl
theorem ff59_7:Yn Tryz.prog 59 7=some (7,31):=by kernel_rfl
theorem bv59(parts:List (Nat×V)):K4 Tryz.prog 59 parts=(Bp (fun i=>([(0,1),(1,1),(2,1),(3,1),(4,1),(5,1),(6,1),(7,5)]:List (Nat×Nat))[i]?) [.int .i64 0,.int .i64 0,.int .i64 0,.int .u8 0,.int .i64 0,.int .i64 0,.nS,.int .i64 0,.int .u32 0,.int .u32 0,.int .u32 0,.int .u32 0] parts).map .agg:=Qji zc59 (by kernel_rfl) parts
theorem sz70:sz Tryz.prog 70=some 1:=by kernel_rfl
theorem zc70:zeroCells Tryz.prog 70=some [.nF]:=by kernel_rfl
theorem rd70(cs:List V)(o:Nat):Qn Tryz.prog 70 cs o=cs[o]?:=Ku Tryz.underlying70 sz70 rfl cs o
theorem sz86:sz Tryz.prog 86=some 3:=by kernel_rfl
theorem zc86:zeroCells Tryz.prog 86=some [.int .i64 0,.int .i64 0,.int .i64 0]:=by kernel_rfl
theorem rd86(cs:List V)(o:Nat):Qn Tryz.prog 86 cs o=if o+3<=cs.length then some (.agg ((cs.drop o).take 3)) else none:=Qdz Tryz.underlying86 sz86 rfl cs o
theorem fo86_0:Ym Tryz.prog 86 0=some (0,3):=by kernel_rfl
theorem ff86_0:Yn Tryz.prog 86 0=some (0,3):=by kernel_rfl
theorem fo86_1:Ym Tryz.prog 86 1=some (1,3):=by kernel_rfl
theorem ff86_1:Yn Tryz.prog 86 1=some (1,3):=by kernel_rfl
theorem fo86_2:Ym Tryz.prog 86 2=some (2,3):=by kernel_rfl
theorem ff86_2:Yn Tryz.prog 86 2=some (2,3):=by kernel_rfl
theorem bv86(parts:List (Nat×V)):K4 Tryz.prog 86 parts=(Bp (fun i=>([(0,1),(1,1),(2,1)]:List (Nat×Nat))[i]?) [.int .i64 0,.int .i64 0,.int .i64 0] parts).map .agg:=Qji zc86 (by kernel_rfl) parts
theorem sz89:sz Tryz.prog 89=some 4:=by kernel_rfl
theorem zc89:zeroCells Tryz.prog 89=some [.int .u8 0,.int .i64 0,.int .i64 0,.nS]:=by kernel_rfl
theorem rd89(cs:List V)(o:Nat):Qn Tryz.prog 89 cs o=if o+4<=cs.length then some (.agg ((cs.drop o).take 4)) else none:=Qdz Tryz.underlying89 sz89 rfl cs o
theorem fo89_0:Ym Tryz.prog 89 0=some (0,5):=by kernel_rfl
theorem ff89_0:Yn Tryz.prog 89 0=some (0,5):=by kernel_rfl
theorem fo89_1:Ym Tryz.prog 89 1=some (1,3):=by kernel_rfl
theorem ff89_1:Yn Tryz.prog 89 1=some (1,3):=by kernel_rfl
theorem fo89_2:Ym Tryz.prog 89 2=some (2,3):=by kernel_rfl
theorem ff89_2:Yn Tryz.prog 89 2=some (2,3):=by kernel_rfl
theorem fo89_3:Ym Tryz.prog 89 3=some (3,55):=by kernel_rfl
theorem ff89_3:Yn Tryz.prog 89 3=some (3,55):=by kernel_rfl
theorem bv89(parts:List (Nat×V)):K4 Tryz.prog 89 parts=(Bp (fun i=>([(0,1),(1,1),(2,1),(3,1)]:List (Nat×Nat))[i]?) [.int .u8 0,.int .i64 0,.int .i64 0,.nS] parts).map .agg:=Qji zc89 (by kernel_rfl) parts
theorem sz106:sz Tryz.prog 106=some 1:=by kernel_rfl
theorem zc106:zeroCells Tryz.prog 106=some [.nF]:=by kernel_rfl
theorem rd106(cs:List V)(o:Nat):Qn Tryz.prog 106 cs o=cs[o]?:=Ku Tryz.underlying106 sz106 rfl cs o
theorem Qjg:sz Tryz.prog 112=some 2:=by kernel_rfl
theorem Q4r:zeroCells Tryz.prog 112=some [.int .i64 0,.nS]:=by kernel_rfl
theorem Q32(cs:List V)(o:Nat):Qn Tryz.prog 112 cs o=if o+2<=cs.length then some (.agg ((cs.drop o).take 2)) else none:=Qdz Tryz.underlying112 Qjg rfl cs o
theorem Zdy:Ym Tryz.prog 112 0=some (0,3):=by kernel_rfl
theorem Zc3:Yn Tryz.prog 112 0=some (0,3):=by kernel_rfl
theorem Zcl:Ym Tryz.prog 112 1=some (1,26):=by kernel_rfl
theorem Zc0:Yn Tryz.prog 112 1=some (1,26):=by kernel_rfl
theorem bv112(parts:List (Nat×V)):K4 Tryz.prog 112 parts=(Bp (fun i=>([(0,1),(1,1)]:List (Nat×Nat))[i]?) [.int .i64 0,.nS] parts).map .agg:=Qji Q4r (by kernel_rfl) parts
theorem sz114:sz Tryz.prog 114=some 1:=by kernel_rfl
theorem zc114:zeroCells Tryz.prog 114=some [.nF]:=by kernel_rfl
theorem rd114(cs:List V)(o:Nat):Qn Tryz.prog 114 cs o=cs[o]?:=Ku Tryz.underlying114 sz114 rfl cs o
theorem sz119:sz Tryz.prog 119=some 1:=by kernel_rfl
theorem zc119:zeroCells Tryz.prog 119=some [.nF]:=by kernel_rfl
theorem rd119(cs:List V)(o:Nat):Qn Tryz.prog 119 cs o=cs[o]?:=Ku Tryz.underlying119 sz119 rfl cs o
theorem sz125:sz Tryz.prog 125=some 1:=by kernel_rfl
theorem zc125:zeroCells Tryz.prog 125=some [.nF]:=by kernel_rfl
theorem rd125(cs:List V)(o:Nat):Qn Tryz.prog 125 cs o=cs[o]?:=Ku Tryz.underlying125 sz125 rfl cs o
theorem sz136:sz Tryz.prog 136=some 1:=by kernel_rfl
theorem zc136:zeroCells Tryz.prog 136=some [.nP]:=by kernel_rfl
theorem rd136(cs:List V)(o:Nat):Qn Tryz.prog 136 cs o=cs[o]?:=Ku Tryz.underlying136 sz136 rfl cs o
theorem sz143:sz Tryz.prog 143=some 16:=by kernel_rfl
theorem zc143:zeroCells Tryz.prog 143=some [.int .u8 0,.int .u8 0,.int .u8 0,.int .u8 0,.int .u8 0,.int .u8 0,.int .u8 0,.int .u8 0,.int .u8 0,.int .u8 0,.int .u8 0,.int .u8 0,.int .u8 0,.int .u8 0,.int .u8 0,.int .u8 0]:=by kernel_rfl
theorem rd143(cs:List V)(o:Nat):Qn Tryz.prog 143 cs o=if o+16<=cs.length then some (.agg ((cs.drop o).take 16)) else none:=Qdz Tryz.underlying143 sz143 rfl cs o
theorem sz160:sz Tryz.prog 160=some 1:=by kernel_rfl
theorem zc160:zeroCells Tryz.prog 160=some [.int .u64 0]:=by kernel_rfl
theorem rd160(cs:List V)(o:Nat):Qn Tryz.prog 160 cs o=cs[o]?:=Ku Tryz.underlying160 sz160 rfl cs o
theorem sz171:sz Tryz.prog 171=some 1:=by kernel_rfl
theorem zc171:zeroCells Tryz.prog 171=some [.nF]:=by kernel_rfl
theorem rd171(cs:List V)(o:Nat):Qn Tryz.prog 171 cs o=cs[o]?:=Ku Tryz.underlying171 sz171 rfl cs o
theorem sz187:sz Tryz.prog 187=some 1:=by kernel_rfl
theorem zc187:zeroCells Tryz.prog 187=some [.nF]:=by kernel_rfl
theorem rd187(cs:List V)(o:Nat):Qn Tryz.prog 187 cs o=cs[o]?:=Ku Tryz.underlying187 sz187 rfl cs o
theorem sz189:sz Tryz.prog 189=some 1:=by kernel_rfl
theorem zc189:zeroCells Tryz.prog 189=some [.nF]:=by kernel_rfl
theorem rd189(cs:List V)(o:Nat):Qn Tryz.prog 189 cs o=cs[o]?:=Ku Tryz.underlying189 sz189 rfl cs o
theorem sz201:sz Tryz.prog 201=some 4:=by kernel_rfl
theorem zc201:zeroCells Tryz.prog 201=some [.int .u32 0,.int .u32 0,.int .u32 0,.int .u32 0]:=by kernel_rfl
theorem rd201(cs:List V)(o:Nat):Qn Tryz.prog 201 cs o=if o+4<=cs.length then some (.agg ((cs.drop o).take 4)) else none:=Qdz Tryz.underlying201 sz201 rfl cs o
theorem sz210:sz Tryz.prog 210=some 1:=by kernel_rfl
theorem zc210:zeroCells Tryz.prog 210=some [.nF]:=by kernel_rfl
theorem rd210(cs:List V)(o:Nat):Qn Tryz.prog 210 cs o=cs[o]?:=Ku Tryz.underlying210 sz210 rfl cs o
theorem sz234:sz Tryz.prog 234=some 12:=by kernel_rfl
theorem zc234:zeroCells Tryz.prog 234=some [.int .u8 0,.int .u8 0,.int .u8 0,.int .u8 0,.int .u8 0,.int .u8 0,.int .u8 0,.int .u8 0,.int .u8 0,.int .u8 0,.int .u8 0,.int .u8 0]:=by kernel_rfl
theorem rd234(cs:List V)(o:Nat):Qn Tryz.prog 234 cs o=if o+12<=cs.length then some (.agg ((cs.drop o).take 12)) else none:=Qdz Tryz.underlying234 sz234 rfl cs o
theorem sz237:sz Tryz.prog 237=some 1:=by kernel_rfl
theorem zc237:zeroCells Tryz.prog 237=some [.nM]:=by kernel_rfl
theorem rd237(cs:List V)(o:Nat):Qn Tryz.prog 237 cs o=cs[o]?:=Ku Tryz.underlying237 sz237 rfl cs o
theorem sz255:sz Tryz.prog 255=some 5:=by kernel_rfl
theorem zc255:zeroCells Tryz.prog 255=some [.int .i64 0,.int .i64 0,.int .i64 0,.int .i64 0,.int .i64 0]:=by kernel_rfl
theorem rd255(cs:List V)(o:Nat):Qn Tryz.prog 255 cs o=if o+5<=cs.length then some (.agg ((cs.drop o).take 5)) else none:=Qdz Tryz.underlying255 sz255 rfl cs o
theorem sz271:sz Tryz.prog 271=some 1:=by kernel_rfl
theorem zc271:zeroCells Tryz.prog 271=some [.int .u64 0]:=by kernel_rfl
theorem rd271(cs:List V)(o:Nat):Qn Tryz.prog 271 cs o=cs[o]?:=Ku Tryz.underlying271 sz271 rfl cs o
abbrev ta:=ai @Q74<|ai @sz3<|ai @zc3<|ai @rd3<|ai @sz4<|ai @zc4<|ai @rd4<|ai @sz5<|ai @zc5<|ai @rd5<|ai @sz9<|ai @zc9<|ai @rd9<|ai @ln9<|ai @sz21<|ai @zc21<|ai @rd21<|ai @sz22<|ai @zc22<|ai @rd22<|ai @ln22<|ai @lnn22<|ai @sz23<|ai @zc23<|ai @rd23<|ai @ln23<|ai @lnn23<|ai @sz25<|ai @zc25<|ai @rd25<|ai @fo25_0<|ai @ff25_0<|ai @fo25_1<|ai @ff25_1<|ai @bv25<|ai @Qew<|ai @zc26<|ai @rd26<|ai @ln26<|ai @lnn26<|ai @Qtd<|ai @zc27<|ai @rd27<|ai @sz29<|ai @zc29<|ai @rd29<|ai @fo29_0<|ai @ff29_0<|ai @fo29_1<|ai @ff29_1<|ai @fo29_2<|ai @ff29_2<|ai @fo29_3<|ai @ff29_3<|ai @bv29<|ai @Qqa<|ai @zc31<|ai @rd31<|ai @fo31_0<|ai @ff31_0<|ai @fo31_1<|ai @ff31_1<|ai @fo31_2<|ai @ff31_2<|ai @fo31_3<|ai @ff31_3<|ai @fo31_4<|ai @ff31_4<|ai @bv31<|ai @sz32<|ai @zc32<|ai @rd32<|ai @ln32<|ai @lnn32<|ai @sz33<|ai @zc33<|ai @Qrv<|ai @ln33<|ai @lnn33<|ai @sz34<|ai @zc34<|ai @Qx8<|ai @ln34<|ai @lnn34<|ai @sz36<|ai @zc36<|ai @rd36<|ai @fo36_0<|ai @ff36_0<|ai @fo36_1<|ai @ff36_1<|ai @fo36_2<|ai @ff36_2<|ai @fo36_3<|ai @ff36_3<|ai @fo36_4<|ai @ff36_4<|ai @fo36_5<|ai @ff36_5<|ai @fo36_6<|ai @ff36_6<|ai @fo36_7<|ai @ff36_7<|ai @fo36_8<|ai @ff36_8<|ai @fo36_9<|ai @ff36_9<|ai @Zc8<|ai @Zer<|ai @bv36<|ai @sz39<|ai @zc39<|ai @rd39<|ai @ln39<|ai @lnn39<|ai @sz40<|ai @zc40<|ai @rd40<|ai @Ql8<|ai @zc46<|ai @rd46<|ai @fo46_0<|ai @ff46_0<|ai @fo46_1<|ai @ff46_1<|ai @bv46<|ai @sz55<|ai @zc55<|ai @rd55<|ai @ln55<|ai @lnn55<|ai @Qnt<|ai @zc57<|ai @rd57<|ai @fo57_0<|ai @ff57_0<|ai @fo57_1<|ai @ff57_1<|ai @fo57_2<|ai @ff57_2<|ai @fo57_3<|ai @ff57_3<|ai @fo57_4<|ai @ff57_4<|ai @fo57_5<|ai @ff57_5<|ai @fo57_6<|ai @ff57_6<|ai @fo57_7<|ai @ff57_7<|ai @fo57_8<|ai @ff57_8<|ai @bv57<|ai @Qzq<|ai @zc59<|ai @rd59<|ai @fo59_0<|ai @ff59_0<|ai @fo59_1<|ai @ff59_1<|ai @fo59_2<|ai @ff59_2<|ai @fo59_3<|ai @ff59_3<|ai @fo59_4<|ai @ff59_4<|ai @fo59_5<|ai @ff59_5<|ai @fo59_6<|ai @ff59_6<|ai @fo59_7<|ai @ff59_7<|ai @bv59<|ai @sz70<|ai @zc70<|ai @rd70<|ai @sz86<|ai @zc86<|ai @rd86<|ai @fo86_0<|ai @ff86_0<|ai @fo86_1<|ai @ff86_1<|ai @fo86_2<|ai @ff86_2<|ai @bv86<|ai @sz89<|ai @zc89<|ai @rd89<|ai @fo89_0<|ai @ff89_0<|ai @fo89_1<|ai @ff89_1<|ai @fo89_2<|ai @ff89_2<|ai @fo89_3<|ai @ff89_3<|ai @bv89<|ai @sz106<|ai @zc106<|ai @rd106<|ai @Qjg<|ai @Q4r<|ai @Q32<|ai @Zdy<|ai @Zc3<|ai @Zcl<|ai @Zc0<|ai @bv112<|ai @sz114<|ai @zc114<|ai @rd114<|ai @sz119<|ai @zc119<|ai @rd119<|ai @sz125<|ai @zc125<|ai @rd125<|ai @sz136<|ai @zc136<|ai @rd136<|ai @sz143<|ai @zc143<|ai @rd143<|ai @sz160<|ai @zc160<|ai @rd160<|ai @sz171<|ai @zc171<|ai @rd171<|ai @sz187<|ai @zc187<|ai @rd187<|ai @sz189<|ai @zc189<|ai @rd189<|ai @sz201<|ai @zc201<|ai @rd201<|ai @sz210<|ai @zc210<|ai @rd210<|ai @sz234<|ai @zc234<|ai @rd234<|ai @sz237<|ai @zc237<|ai @rd237<|ai @sz255<|ai @zc255<|ai @rd255<|ai @sz271<|ai @zc271<| @rd271
def Zbl(v1 v2 v3 v8 v10 v11 v12 v13:V):List V:=[.bad,v1,v2,v3,.bad,.bad,.bad,.bad,v8,.bad,v10,v11,v12,v13,.bad,.bad,.bad,.bad,.bad,.bad,.bad,.bad,.bad,.bad,.bad,.bad,.bad,.bad,.bad,.bad,.bad,.bad,.bad,.bad,.bad,.bad,.bad,.bad,.bad,.bad,.bad,.bad,.bad,.bad,.bad,.bad,.bad,.bad,.bad,.bad,.bad,.bad,.bad,.bad,.bad,.bad,.bad,.bad,.bad,.bad,.bad,.bad,.bad,.bad,.bad,.bad,.bad,.bad,.bad,.bad,.bad,.bad,.bad,.bad,.bad,.bad,.bad,.bad,.bad,.bad,.bad,.bad,.bad,.bad,.bad,.bad,.bad,.bad,.bad,.bad,.bad,.bad,.bad,.bad,.bad,.bad,.bad,.bad,.bad,.bad,.bad,.bad,.bad,.bad,.bad,.bad,.bad,.bad,.bad,.bad,.bad,.bad,.bad,.bad,.bad,.bad,.bad,.bad,.bad,.bad,.bad,.bad,.bad,.bad,.bad,.bad,.bad,.bad,.bad,.bad,.bad,.bad,.bad,.bad,.bad,.bad,.bad,.bad,.bad,.bad,.bad,.bad,.bad,.bad,.bad,.bad,.bad,.bad]
def st5_5(v1 v3 v4:V):List V:=[.bad,v1,.bad,v3,v4,.bad,.bad,.bad,.bad,.bad,.bad,.bad,.bad,.bad,.bad,.bad,.bad,.bad,.bad,.bad,.bad,.bad,.bad,.bad,.bad,.bad,.bad,.bad,.bad,.bad,.bad,.bad,.bad,.bad,.bad,.bad,.bad,.bad,.bad,.bad,.bad,.bad,.bad,.bad,.bad,.bad,.bad,.bad,.bad,.bad,.bad,.bad,.bad,.bad,.bad,.bad,.bad,.bad,.bad,.bad,.bad,.bad,.bad,.bad,.bad,.bad,.bad,.bad,.bad,.bad,.bad,.bad,.bad,.bad,.bad,.bad,.bad,.bad,.bad,.bad,.bad,.bad,.bad,.bad,.bad,.bad,.bad,.bad,.bad,.bad,.bad,.bad,.bad,.bad,.bad,.bad,.bad,.bad,.bad,.bad,.bad,.bad,.bad,.bad,.bad]
def st5_9(v1 v3 v5:V):List V:=[.bad,v1,.bad,v3,.bad,v5,.bad,.bad,.bad,.bad,.bad,.bad,.bad,.bad,.bad,.bad,.bad,.bad,.bad,.bad,.bad,.bad,.bad,.bad,.bad,.bad,.bad,.bad,.bad,.bad,.bad,.bad,.bad,.bad,.bad,.bad,.bad,.bad,.bad,.bad,.bad,.bad,.bad,.bad,.bad,.bad,.bad,.bad,.bad,.bad,.bad,.bad,.bad,.bad,.bad,.bad,.bad,.bad,.bad,.bad,.bad,.bad,.bad,.bad,.bad,.bad,.bad,.bad,.bad,.bad,.bad,.bad,.bad,.bad,.bad,.bad,.bad,.bad,.bad,.bad,.bad,.bad,.bad,.bad,.bad,.bad,.bad,.bad,.bad,.bad,.bad,.bad,.bad,.bad,.bad,.bad,.bad,.bad,.bad,.bad,.bad,.bad,.bad,.bad,.bad]
def Zb1(v1 v3 v6:V):List V:=[.bad,v1,.bad,v3,.bad,.bad,v6,.bad,.bad,.bad,.bad,.bad,.bad,.bad,.bad,.bad,.bad,.bad,.bad,.bad,.bad,.bad,.bad,.bad,.bad,.bad,.bad,.bad,.bad,.bad,.bad,.bad,.bad,.bad,.bad,.bad,.bad,.bad,.bad,.bad,.bad,.bad,.bad,.bad,.bad,.bad,.bad,.bad,.bad,.bad,.bad,.bad,.bad,.bad,.bad,.bad,.bad,.bad,.bad,.bad,.bad,.bad,.bad,.bad,.bad,.bad,.bad,.bad,.bad,.bad,.bad,.bad,.bad,.bad,.bad,.bad,.bad,.bad,.bad,.bad,.bad,.bad,.bad,.bad,.bad,.bad,.bad,.bad,.bad,.bad,.bad,.bad,.bad,.bad,.bad,.bad,.bad,.bad,.bad,.bad,.bad,.bad,.bad,.bad,.bad]
def Q8r(v1 v3 v7:V):List V:=[.bad,v1,.bad,v3,.bad,.bad,.bad,v7,.bad,.bad,.bad,.bad,.bad,.bad,.bad,.bad,.bad,.bad,.bad,.bad,.bad,.bad,.bad,.bad,.bad,.bad,.bad,.bad,.bad,.bad,.bad,.bad,.bad,.bad,.bad,.bad,.bad,.bad,.bad,.bad,.bad,.bad,.bad,.bad,.bad,.bad,.bad,.bad,.bad,.bad,.bad,.bad,.bad,.bad,.bad,.bad,.bad,.bad,.bad,.bad,.bad,.bad,.bad,.bad,.bad,.bad,.bad,.bad,.bad,.bad,.bad,.bad,.bad,.bad,.bad,.bad,.bad,.bad,.bad,.bad,.bad,.bad,.bad,.bad,.bad,.bad,.bad,.bad,.bad,.bad,.bad,.bad,.bad,.bad,.bad,.bad,.bad,.bad,.bad,.bad,.bad,.bad,.bad,.bad,.bad]
def Zat(v1 v3 v4:V):List V:=[.bad,v1,.bad,v3,v4,.bad,.bad,.bad,.bad,.bad,.bad,.bad,.bad,.bad,.bad,.bad,.bad,.bad,.bad,.bad,.bad,.bad,.bad,.bad,.bad,.bad,.bad,.bad,.bad,.bad,.bad,.bad,.bad,.bad,.bad,.bad,.bad,.bad,.bad,.bad,.bad,.bad,.bad,.bad,.bad,.bad,.bad,.bad,.bad,.bad,.bad,.bad,.bad,.bad,.bad,.bad,.bad,.bad,.bad,.bad,.bad,.bad,.bad,.bad,.bad,.bad,.bad,.bad,.bad]
def Qvd(v1 v3 v5:V):List V:=[.bad,v1,.bad,v3,.bad,v5,.bad,.bad,.bad,.bad,.bad,.bad,.bad,.bad,.bad,.bad,.bad,.bad,.bad,.bad,.bad,.bad,.bad,.bad,.bad,.bad,.bad,.bad,.bad,.bad,.bad,.bad,.bad,.bad,.bad,.bad,.bad,.bad,.bad,.bad,.bad,.bad,.bad,.bad,.bad,.bad,.bad,.bad,.bad,.bad,.bad,.bad,.bad,.bad,.bad,.bad,.bad,.bad,.bad,.bad,.bad,.bad,.bad,.bad,.bad,.bad,.bad,.bad,.bad]
def Quf(v3 v6 v7 v8:V):List V:=[.bad,.bad,.bad,v3,.bad,.bad,v6,v7,v8,.bad,.bad,.bad,.bad,.bad,.bad,.bad,.bad,.bad,.bad,.bad,.bad,.bad,.bad,.bad,.bad,.bad,.bad,.bad,.bad,.bad,.bad,.bad,.bad,.bad]
def Q88(v1 v34 v35 v36:V):List V:=[.bad,v1,.bad,.bad,.bad,.bad,.bad,.bad,.bad,.bad,.bad,.bad,.bad,.bad,.bad,.bad,.bad,.bad,.bad,.bad,.bad,.bad,.bad,.bad,.bad,.bad,.bad,.bad,.bad,.bad,.bad,.bad,.bad,.bad,v34,v35,v36,.bad,.bad,.bad,.bad,.bad,.bad,.bad,.bad,.bad,.bad,.bad,.bad,.bad,.bad,.bad,.bad,.bad,.bad,.bad,.bad,.bad,.bad,.bad,.bad,.bad,.bad,.bad,.bad,.bad,.bad,.bad,.bad,.bad,.bad,.bad,.bad,.bad,.bad,.bad,.bad,.bad,.bad,.bad,.bad,.bad,.bad,.bad,.bad,.bad,.bad,.bad,.bad,.bad,.bad,.bad,.bad,.bad,.bad,.bad,.bad,.bad,.bad,.bad,.bad,.bad,.bad,.bad,.bad,.bad,.bad,.bad,.bad,.bad,.bad,.bad,.bad,.bad,.bad,.bad,.bad,.bad,.bad,.bad,.bad,.bad,.bad,.bad,.bad,.bad,.bad,.bad,.bad,.bad,.bad,.bad,.bad,.bad,.bad,.bad,.bad,.bad,.bad,.bad,.bad,.bad,.bad,.bad,.bad,.bad,.bad,.bad,.bad,.bad,.bad,.bad,.bad,.bad]
def Qub(v1 v108 v109 v110:V):List V:=[.bad,v1,.bad,.bad,.bad,.bad,.bad,.bad,.bad,.bad,.bad,.bad,.bad,.bad,.bad,.bad,.bad,.bad,.bad,.bad,.bad,.bad,.bad,.bad,.bad,.bad,.bad,.bad,.bad,.bad,.bad,.bad,.bad,.bad,.bad,.bad,.bad,.bad,.bad,.bad,.bad,.bad,.bad,.bad,.bad,.bad,.bad,.bad,.bad,.bad,.bad,.bad,.bad,.bad,.bad,.bad,.bad,.bad,.bad,.bad,.bad,.bad,.bad,.bad,.bad,.bad,.bad,.bad,.bad,.bad,.bad,.bad,.bad,.bad,.bad,.bad,.bad,.bad,.bad,.bad,.bad,.bad,.bad,.bad,.bad,.bad,.bad,.bad,.bad,.bad,.bad,.bad,.bad,.bad,.bad,.bad,.bad,.bad,.bad,.bad,.bad,.bad,.bad,.bad,.bad,.bad,.bad,.bad,v108,v109,v110,.bad,.bad,.bad,.bad,.bad,.bad,.bad,.bad,.bad,.bad,.bad,.bad,.bad,.bad,.bad,.bad,.bad,.bad,.bad,.bad,.bad,.bad,.bad,.bad,.bad,.bad,.bad,.bad,.bad,.bad,.bad,.bad,.bad,.bad,.bad,.bad,.bad,.bad,.bad,.bad,.bad,.bad,.bad]
def Zau(v0 v1 v7 v8:V):List V:=[v0,v1,.bad,.bad,.bad,.bad,.bad,v7,v8,.bad,.bad,.bad,.bad,.bad,.bad,.bad,.bad,.bad,.bad]
def Qu0(v0 v1 v7 v8:V):List V:=[v0,v1,.bad,.bad,.bad,.bad,.bad,v7,v8,.bad,.bad,.bad,.bad,.bad,.bad,.bad,.bad,.bad,.bad]
def Q94(v0 v2 v4 v8 v9 v10:V):List V:=[v0,.bad,v2,.bad,v4,.bad,.bad,.bad,v8,v9,v10,.bad,.bad,.bad,.bad,.bad,.bad,.bad,.bad,.bad,.bad,.bad,.bad,.bad,.bad,.bad,.bad,.bad,.bad,.bad,.bad,.bad,.bad,.bad,.bad,.bad,.bad,.bad,.bad,.bad,.bad,.bad,.bad,.bad,.bad,.bad,.bad,.bad,.bad]
def Qtl(v0 v1 v2 v4:V):List V:=[v0,v1,v2,.bad,v4,.bad,.bad,.bad,.bad,.bad,.bad,.bad,.bad,.bad,.bad,.bad,.bad,.bad,.bad,.bad,.bad,.bad,.bad,.bad,.bad,.bad,.bad,.bad,.bad,.bad,.bad]
def Zbu(v0 v1 v2 v8 v9 v10:V):List V:=[v0,v1,v2,.bad,.bad,.bad,.bad,.bad,v8,v9,v10,.bad,.bad,.bad,.bad,.bad,.bad,.bad,.bad,.bad,.bad,.bad,.bad,.bad,.bad,.bad,.bad,.bad,.bad,.bad,.bad,.bad,.bad,.bad,.bad,.bad,.bad,.bad,.bad,.bad,.bad,.bad,.bad,.bad,.bad,.bad,.bad,.bad,.bad]
def Q78(v1 v2 v10:V):List V:=[.bad,v1,v2,.bad,.bad,.bad,.bad,.bad,.bad,.bad,v10,.bad,.bad,.bad,.bad,.bad,.bad,.bad,.bad,.bad,.bad]
def Q0o(v0 v10 v11 v12:V):List V:=[v0,.bad,.bad,.bad,.bad,.bad,.bad,.bad,.bad,.bad,v10,v11,v12,.bad,.bad,.bad,.bad,.bad,.bad,.bad,.bad,.bad,.bad,.bad,.bad,.bad,.bad,.bad,.bad,.bad,.bad,.bad,.bad,.bad,.bad,.bad,.bad,.bad,.bad,.bad,.bad,.bad,.bad,.bad,.bad,.bad,.bad,.bad,.bad,.bad,.bad,.bad,.bad,.bad,.bad,.bad,.bad,.bad,.bad,.bad,.bad,.bad,.bad,.bad,.bad,.bad,.bad,.bad,.bad,.bad,.bad,.bad,.bad,.bad,.bad,.bad,.bad,.bad,.bad,.bad,.bad,.bad,.bad,.bad,.bad,.bad,.bad,.bad,.bad]
def Qva(v0 v51 v52 v53:V):List V:=[v0,.bad,.bad,.bad,.bad,.bad,.bad,.bad,.bad,.bad,.bad,.bad,.bad,.bad,.bad,.bad,.bad,.bad,.bad,.bad,.bad,.bad,.bad,.bad,.bad,.bad,.bad,.bad,.bad,.bad,.bad,.bad,.bad,.bad,.bad,.bad,.bad,.bad,.bad,.bad,.bad,.bad,.bad,.bad,.bad,.bad,.bad,.bad,.bad,.bad,.bad,v51,v52,v53,.bad,.bad,.bad,.bad,.bad,.bad,.bad,.bad,.bad,.bad,.bad,.bad,.bad,.bad,.bad,.bad,.bad,.bad,.bad,.bad,.bad,.bad,.bad,.bad,.bad,.bad,.bad,.bad,.bad,.bad,.bad,.bad,.bad,.bad,.bad]
def Q8q(v0 v1 v6:V):List V:=[v0,v1,.bad,.bad,.bad,.bad,v6,.bad,.bad,.bad,.bad,.bad,.bad,.bad,.bad,.bad,.bad,.bad,.bad,.bad,.bad,.bad,.bad,.bad,.bad,.bad,.bad,.bad,.bad,.bad,.bad,.bad,.bad]
def Q90(v0 v1 v2 v4:V):List V:=[v0,v1,v2,.bad,v4,.bad,.bad,.bad,.bad,.bad,.bad,.bad,.bad,.bad,.bad,.bad,.bad,.bad,.bad,.bad,.bad,.bad,.bad,.bad,.bad,.bad,.bad,.bad,.bad,.bad,.bad]
def Q9p(v3 v6 v7 v8:V):List V:=[.bad,.bad,.bad,v3,.bad,.bad,v6,v7,v8,.bad,.bad,.bad,.bad,.bad,.bad,.bad,.bad,.bad]
def Qif(v1 v3 v19 v20 v21:V):List V:=[.bad,v1,.bad,v3,.bad,.bad,.bad,.bad,.bad,.bad,.bad,.bad,.bad,.bad,.bad,.bad,.bad,.bad,.bad,v19,v20,v21,.bad,.bad,.bad,.bad,.bad,.bad,.bad,.bad,.bad,.bad,.bad,.bad,.bad,.bad,.bad,.bad,.bad,.bad,.bad,.bad,.bad,.bad,.bad,.bad,.bad,.bad,.bad,.bad,.bad,.bad,.bad]
def Qd4(v3 v33 v34 v35:V):List V:=[.bad,.bad,.bad,v3,.bad,.bad,.bad,.bad,.bad,.bad,.bad,.bad,.bad,.bad,.bad,.bad,.bad,.bad,.bad,.bad,.bad,.bad,.bad,.bad,.bad,.bad,.bad,.bad,.bad,.bad,.bad,.bad,.bad,v33,v34,v35,.bad,.bad,.bad,.bad,.bad,.bad,.bad,.bad,.bad,.bad,.bad,.bad,.bad,.bad,.bad,.bad,.bad]
def Qtc(v0 v8 v9 v10:V):List V:=[v0,.bad,.bad,.bad,.bad,.bad,.bad,.bad,v8,v9,v10,.bad,.bad,.bad,.bad,.bad,.bad,.bad,.bad,.bad,.bad,.bad,.bad,.bad,.bad,.bad,.bad,.bad,.bad,.bad,.bad,.bad,.bad,.bad,.bad,.bad,.bad,.bad]
def Q4x(v0 v1 v2 v8 v9 v10:V):List V:=[v0,v1,v2,.bad,.bad,.bad,.bad,.bad,v8,v9,v10,.bad,.bad,.bad,.bad,.bad,.bad,.bad,.bad,.bad,.bad,.bad,.bad,.bad,.bad,.bad,.bad,.bad,.bad,.bad,.bad,.bad,.bad,.bad,.bad,.bad,.bad,.bad,.bad,.bad,.bad,.bad,.bad,.bad,.bad,.bad,.bad,.bad,.bad]
def Q4w(v3 v9 v10:V):List V:=[.bad,.bad,.bad,v3,.bad,.bad,.bad,.bad,.bad,v9,v10,.bad,.bad,.bad,.bad,.bad,.bad,.bad,.bad,.bad,.bad,.bad,.bad,.bad]
def Q4s(v0 v3 v9 v10 v11:V):List V:=[v0,.bad,.bad,v3,.bad,.bad,.bad,.bad,.bad,v9,v10,v11,.bad,.bad,.bad,.bad,.bad,.bad,.bad,.bad,.bad,.bad,.bad,.bad,.bad,.bad,.bad,.bad,.bad,.bad,.bad,.bad,.bad,.bad,.bad,.bad]
def Qwm(v6 v25 v26 v27:V):List V:=[.bad,.bad,.bad,.bad,.bad,.bad,v6,.bad,.bad,.bad,.bad,.bad,.bad,.bad,.bad,.bad,.bad,.bad,.bad,.bad,.bad,.bad,.bad,.bad,.bad,v25,v26,v27,.bad,.bad,.bad,.bad,.bad,.bad,.bad,.bad]
def Q4o(v1 v2 v3 v11 v12 v13:V):List V:=[.bad,v1,v2,v3,.bad,.bad,.bad,.bad,.bad,.bad,.bad,v11,v12,v13,.bad,.bad,.bad,.bad,.bad,.bad,.bad,.bad,.bad,.bad,.bad,.bad,.bad,.bad,.bad,.bad,.bad,.bad,.bad,.bad,.bad,.bad,.bad,.bad,.bad,.bad,.bad,.bad,.bad,.bad,.bad,.bad,.bad,.bad,.bad,.bad,.bad,.bad,.bad,.bad,.bad,.bad,.bad,.bad,.bad,.bad,.bad]
def Q4h(v1 v2 v27 v28 v29:V):List V:=[.bad,v1,v2,.bad,.bad,.bad,.bad,.bad,.bad,.bad,.bad,.bad,.bad,.bad,.bad,.bad,.bad,.bad,.bad,.bad,.bad,.bad,.bad,.bad,.bad,.bad,.bad,v27,v28,v29,.bad,.bad,.bad,.bad,.bad,.bad,.bad,.bad,.bad,.bad,.bad,.bad,.bad,.bad,.bad,.bad,.bad,.bad,.bad,.bad,.bad,.bad,.bad,.bad,.bad,.bad,.bad,.bad,.bad,.bad,.bad]
def Qo3(v2 v43 v44 v45:V):List V:=[.bad,.bad,v2,.bad,.bad,.bad,.bad,.bad,.bad,.bad,.bad,.bad,.bad,.bad,.bad,.bad,.bad,.bad,.bad,.bad,.bad,.bad,.bad,.bad,.bad,.bad,.bad,.bad,.bad,.bad,.bad,.bad,.bad,.bad,.bad,.bad,.bad,.bad,.bad,.bad,.bad,.bad,.bad,v43,v44,v45,.bad,.bad,.bad,.bad,.bad,.bad,.bad,.bad,.bad,.bad,.bad,.bad,.bad,.bad,.bad]
def Qii(v2 v4 v16:V):List V:=[.bad,.bad,v2,.bad,v4,.bad,.bad,.bad,.bad,.bad,.bad,.bad,.bad,.bad,.bad,.bad,v16,.bad,.bad,.bad,.bad,.bad,.bad,.bad,.bad,.bad,.bad,.bad,.bad,.bad,.bad]
def Q33(v0 v2 v3 v4:V):List V:=[v0,.bad,v2,v3,v4,.bad,.bad,.bad,.bad,.bad,.bad,.bad,.bad,.bad,.bad,.bad,.bad,.bad,.bad,.bad,.bad,.bad,.bad,.bad,.bad,.bad,.bad,.bad,.bad,.bad,.bad,.bad,.bad,.bad,.bad,.bad,.bad,.bad,.bad,.bad,.bad,.bad,.bad,.bad,.bad,.bad,.bad]
def Q3q(v8 v9 v28 v29 v30:V):List V:=[.bad,.bad,.bad,.bad,.bad,.bad,.bad,.bad,v8,v9,.bad,.bad,.bad,.bad,.bad,.bad,.bad,.bad,.bad,.bad,.bad,.bad,.bad,.bad,.bad,.bad,.bad,.bad,v28,v29,v30,.bad,.bad,.bad,.bad,.bad,.bad,.bad,.bad,.bad,.bad,.bad,.bad,.bad,.bad]
def Q4e(v0 v2 v3 v9 v10 v11:V):List V:=[v0,.bad,v2,v3,.bad,.bad,.bad,.bad,.bad,v9,v10,v11,.bad,.bad,.bad,.bad,.bad,.bad,.bad,.bad,.bad,.bad,.bad,.bad,.bad,.bad,.bad,.bad,.bad,.bad,.bad,.bad,.bad,.bad,.bad,.bad,.bad,.bad]
def Qv4(v2 v6 v21 v22 v23:V):List V:=[.bad,.bad,v2,.bad,.bad,.bad,v6,.bad,.bad,.bad,.bad,.bad,.bad,.bad,.bad,.bad,.bad,.bad,.bad,.bad,.bad,v21,v22,v23,.bad,.bad,.bad,.bad,.bad,.bad,.bad,.bad,.bad,.bad,.bad,.bad,.bad,.bad]
def Q4t(v7 v8:V):List V:=[.bad,.bad,.bad,.bad,.bad,.bad,.bad,v7,v8,.bad,.bad,.bad,.bad,.bad,.bad,.bad,.bad,.bad,.bad,.bad,.bad,.bad,.bad,.bad,.bad,.bad,.bad,.bad,.bad,.bad,.bad,.bad,.bad,.bad,.bad,.bad,.bad,.bad,.bad,.bad,.bad,.bad,.bad,.bad,.bad,.bad,.bad,.bad]
def Qul(v0 v3 v4:V):List V:=[v0,.bad,.bad,v3,v4,.bad,.bad,.bad,.bad,.bad,.bad,.bad,.bad,.bad,.bad,.bad,.bad,.bad,.bad,.bad,.bad,.bad,.bad,.bad,.bad]
def Q3u(v0 v2 v4 v5 v13 v14:V):List V:=[v0,.bad,v2,.bad,v4,v5,.bad,.bad,.bad,.bad,.bad,.bad,.bad,v13,v14,.bad,.bad,.bad,.bad,.bad,.bad,.bad,.bad,.bad,.bad,.bad,.bad,.bad,.bad,.bad,.bad,.bad,.bad,.bad,.bad,.bad,.bad,.bad,.bad,.bad,.bad,.bad,.bad,.bad,.bad,.bad,.bad,.bad,.bad,.bad,.bad,.bad,.bad]
def Qvh(v1 v5 v10 v11 v12:V):List V:=[.bad,v1,.bad,.bad,.bad,v5,.bad,.bad,.bad,.bad,v10,v11,v12,.bad,.bad,.bad,.bad,.bad,.bad,.bad,.bad,.bad,.bad,.bad,.bad,.bad]
def Q4k(v2 v4 v5 v6:V):List V:=[.bad,.bad,v2,.bad,v4,v5,v6,.bad,.bad,.bad,.bad,.bad]
def Q38(v0 v1 v7 v8:V):List V:=[v0,v1,.bad,.bad,.bad,.bad,.bad,v7,v8,.bad,.bad,.bad,.bad,.bad,.bad,.bad,.bad,.bad,.bad]
def Que(v0 v1 v3:V):List V:=[v0,v1,.bad,v3,.bad,.bad,.bad,.bad,.bad,.bad,.bad,.bad,.bad,.bad,.bad,.bad,.bad,.bad,.bad]
def Q4d(v0 v1 v2 v4:V):List V:=[v0,v1,v2,.bad,v4,.bad,.bad,.bad,.bad,.bad,.bad,.bad,.bad,.bad,.bad,.bad,.bad,.bad,.bad,.bad,.bad,.bad,.bad]
end
end Go.Proofs.YtidniacddkalaaaGreatDoor
