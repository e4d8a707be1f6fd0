/- space: facts on the program's types, by a program of ours (wip/dbg/G.lean). -/
import Derived.Test.YtpbhldhmjmfigaaDoorS1
import Derived.Test.YtpbhldhmjmfigaaDoorAm29
set_option linter.unusedSimpArgs false
set_option linter.unusedVariables false
namespace Go.Proofs.YtpbhldhmjmfigaaDoor
open Go.AM
theorem sz0 : sz Tryd.prog 0 = some 1 := by kernel_rfl
theorem rd0 (cs : List V) (o : Nat) : readAt Tryd.prog 0 cs o = cs[o]? := rd_of Tryd.underlying0 sz0 rfl cs o
theorem sz1 : sz Tryd.prog 1 = some 1 := by kernel_rfl
theorem zc1 : zeroCells Tryd.prog 1 = some [.nilfunc] := by kernel_rfl
theorem rd1 (cs : List V) (o : Nat) : readAt Tryd.prog 1 cs o = cs[o]? := rd_of Tryd.underlying1 sz1 rfl cs o
theorem sz2 : sz Tryd.prog 2 = some 1 := by kernel_rfl
theorem zc2 : zeroCells Tryd.prog 2 = some [.int .i64 0] := by kernel_rfl
theorem rd2 (cs : List V) (o : Nat) : readAt Tryd.prog 2 cs o = cs[o]? := rd_of Tryd.underlying2 sz2 rfl cs o
theorem sz3 : sz Tryd.prog 3 = some 1 := by kernel_rfl
theorem zc3 : zeroCells Tryd.prog 3 = some [.int .i64 0] := by kernel_rfl
theorem rd3 (cs : List V) (o : Nat) : readAt Tryd.prog 3 cs o = cs[o]? := rd_of Tryd.underlying3 sz3 rfl cs o
theorem sz4 : sz Tryd.prog 4 = some 1 := by kernel_rfl
theorem zc4 : zeroCells Tryd.prog 4 = some [.bool false] := by kernel_rfl
theorem rd4 (cs : List V) (o : Nat) : readAt Tryd.prog 4 cs o = cs[o]? := rd_of Tryd.underlying4 sz4 rfl cs o
theorem sz5 : sz Tryd.prog 5 = some 1 := by kernel_rfl
theorem zc5 : zeroCells Tryd.prog 5 = some [.int .u8 0] := by kernel_rfl
theorem rd5 (cs : List V) (o : Nat) : readAt Tryd.prog 5 cs o = cs[o]? := rd_of Tryd.underlying5 sz5 rfl cs o
theorem sz6 : sz Tryd.prog 6 = some 1 := by kernel_rfl
theorem zc6 : zeroCells Tryd.prog 6 = some [.int .u8 0] := by kernel_rfl
theorem rd6 (cs : List V) (o : Nat) : readAt Tryd.prog 6 cs o = cs[o]? := rd_of Tryd.underlying6 sz6 rfl cs o
theorem sz7 : sz Tryd.prog 7 = some 4 := by kernel_rfl
theorem zc7 : zeroCells Tryd.prog 7 = some [.int .i64 0, .int .i64 0, .bool false, .int .u8 0] := by kernel_rfl
theorem sz8 : sz Tryd.prog 8 = some 4 := by kernel_rfl
theorem zc8 : zeroCells Tryd.prog 8 = some [.int .i64 0, .int .i64 0, .bool false, .int .u8 0] := by kernel_rfl
theorem sz9 : sz Tryd.prog 9 = some 1 := by kernel_rfl
theorem zc9 : zeroCells Tryd.prog 9 = some [.str []] := by kernel_rfl
theorem rd9 (cs : List V) (o : Nat) : readAt Tryd.prog 9 cs o = cs[o]? := rd_of Tryd.underlying9 sz9 rfl cs o
theorem ln9 (g : Get) (s : List UInt8) : lenV Tryd.prog g 9 (.str s) = some (.int .i64 s.length) := ln_str Tryd.underlying9 s
theorem sz10 : sz Tryd.prog 10 = some 1 := by kernel_rfl
theorem zc10 : zeroCells Tryd.prog 10 = some [.str []] := by kernel_rfl
theorem rd10 (cs : List V) (o : Nat) : readAt Tryd.prog 10 cs o = cs[o]? := rd_of Tryd.underlying10 sz10 rfl cs o
theorem ln10 (g : Get) (s : List UInt8) : lenV Tryd.prog g 10 (.str s) = some (.int .i64 s.length) := ln_str Tryd.underlying10 s
theorem sz11 : sz Tryd.prog 11 = some 1 := by kernel_rfl
theorem zc11 : zeroCells Tryd.prog 11 = some [.str []] := by kernel_rfl
theorem rd11 (cs : List V) (o : Nat) : readAt Tryd.prog 11 cs o = cs[o]? := rd_of Tryd.underlying11 sz11 rfl cs o
theorem ln11 (g : Get) (s : List UInt8) : lenV Tryd.prog g 11 (.str s) = some (.int .i64 s.length) := ln_str Tryd.underlying11 s
theorem sz12 : sz Tryd.prog 12 = some 1 := by kernel_rfl
theorem zc12 : zeroCells Tryd.prog 12 = some [.int .u64 0] := by kernel_rfl
theorem rd12 (cs : List V) (o : Nat) : readAt Tryd.prog 12 cs o = cs[o]? := rd_of Tryd.underlying12 sz12 rfl cs o
theorem sz13 : sz Tryd.prog 13 = some 2 := by kernel_rfl
theorem zc13 : zeroCells Tryd.prog 13 = some [.str [], .int .u64 0] := by kernel_rfl
theorem sz14 : sz Tryd.prog 14 = some 2 := by kernel_rfl
theorem zc14 : zeroCells Tryd.prog 14 = some [.str [], .int .u64 0] := by kernel_rfl
theorem sz15 : sz Tryd.prog 15 = some 1 := by kernel_rfl
theorem zc15 : zeroCells Tryd.prog 15 = some [.nilptr] := by kernel_rfl
theorem rd15 (cs : List V) (o : Nat) : readAt Tryd.prog 15 cs o = cs[o]? := rd_of Tryd.underlying15 sz15 rfl cs o
theorem sz16 : sz Tryd.prog 16 = some 1 := by kernel_rfl
theorem zc16 : zeroCells Tryd.prog 16 = some [.nilptr] := by kernel_rfl
theorem rd16 (cs : List V) (o : Nat) : readAt Tryd.prog 16 cs o = cs[o]? := rd_of Tryd.underlying16 sz16 rfl cs o
theorem sz17 : sz Tryd.prog 17 = some 1 := by kernel_rfl
theorem zc17 : zeroCells Tryd.prog 17 = some [.nilptr] := by kernel_rfl
theorem rd17 (cs : List V) (o : Nat) : readAt Tryd.prog 17 cs o = cs[o]? := rd_of Tryd.underlying17 sz17 rfl cs o
theorem sz18 : sz Tryd.prog 18 = some 1 := by kernel_rfl
theorem zc18 : zeroCells Tryd.prog 18 = some [.nilptr] := by kernel_rfl
theorem sz19 : sz Tryd.prog 19 = some 1 := by kernel_rfl
theorem zc19 : zeroCells Tryd.prog 19 = some [.nilptr] := by kernel_rfl
theorem sz20 : sz Tryd.prog 20 = some 1 := by kernel_rfl
theorem zc20 : zeroCells Tryd.prog 20 = some [.nilface] := by kernel_rfl
theorem rd20 (cs : List V) (o : Nat) : readAt Tryd.prog 20 cs o = cs[o]? := rd_of Tryd.underlying20 sz20 rfl cs o
theorem sz21 : sz Tryd.prog 21 = some 1 := by kernel_rfl
theorem zc21 : zeroCells Tryd.prog 21 = some [.int .i32 0] := by kernel_rfl
theorem rd21 (cs : List V) (o : Nat) : readAt Tryd.prog 21 cs o = cs[o]? := rd_of Tryd.underlying21 sz21 rfl cs o
theorem sz22 : sz Tryd.prog 22 = some 1 := by kernel_rfl
theorem zc22 : zeroCells Tryd.prog 22 = some [.nilslice] := by kernel_rfl
theorem rd22 (cs : List V) (o : Nat) : readAt Tryd.prog 22 cs o = cs[o]? := rd_of Tryd.underlying22 sz22 rfl cs o
theorem ln22 (g : Get) (cs : List V) (len : Nat) (full : Bool) : lenV Tryd.prog g 22 (.islice cs len full) = some (.int .i64 len) := ln_islice Tryd.underlying22 cs len full
theorem lnn22 (g : Get) : lenV Tryd.prog g 22 .nilslice = some (.int .i64 0) := ln_nil Tryd.underlying22
theorem sz23 : sz Tryd.prog 23 = some 1 := by kernel_rfl
theorem zc23 : zeroCells Tryd.prog 23 = some [.int .i64 0] := by kernel_rfl
theorem rd23 (cs : List V) (o : Nat) : readAt Tryd.prog 23 cs o = cs[o]? := rd_of Tryd.underlying23 sz23 rfl cs o
theorem sz24 : sz Tryd.prog 24 = some 1 := by kernel_rfl
theorem rd24 (cs : List V) (o : Nat) : readAt Tryd.prog 24 cs o = cs[o]? := rd_of Tryd.underlying24 sz24 rfl cs o
theorem sz25 : sz Tryd.prog 25 = some 1 := by kernel_rfl
theorem zc25 : zeroCells Tryd.prog 25 = some [.nilfunc] := by kernel_rfl
theorem rd25 (cs : List V) (o : Nat) : readAt Tryd.prog 25 cs o = cs[o]? := rd_of Tryd.underlying25 sz25 rfl cs o
theorem sz26 : sz Tryd.prog 26 = some 1 := by kernel_rfl
theorem zc26 : zeroCells Tryd.prog 26 = some [.nilslice] := by kernel_rfl
theorem rd26 (cs : List V) (o : Nat) : readAt Tryd.prog 26 cs o = cs[o]? := rd_of Tryd.underlying26 sz26 rfl cs o
theorem ln26 (g : Get) (cs : List V) (len : Nat) (full : Bool) : lenV Tryd.prog g 26 (.islice cs len full) = some (.int .i64 len) := ln_islice Tryd.underlying26 cs len full
theorem lnn26 (g : Get) : lenV Tryd.prog g 26 .nilslice = some (.int .i64 0) := ln_nil Tryd.underlying26
theorem sz27 : sz Tryd.prog 27 = some 1 := by kernel_rfl
theorem zc27 : zeroCells Tryd.prog 27 = some [.nilfunc] := by kernel_rfl
theorem rd27 (cs : List V) (o : Nat) : readAt Tryd.prog 27 cs o = cs[o]? := rd_of Tryd.underlying27 sz27 rfl cs o
theorem sz28 : sz Tryd.prog 28 = some 1 := by kernel_rfl
theorem rd28 (cs : List V) (o : Nat) : readAt Tryd.prog 28 cs o = cs[o]? := rd_of Tryd.underlying28 sz28 rfl cs o
theorem sz29 : sz Tryd.prog 29 = some 1 := by kernel_rfl
theorem zc29 : zeroCells Tryd.prog 29 = some [.nilfunc] := by kernel_rfl
theorem rd29 (cs : List V) (o : Nat) : readAt Tryd.prog 29 cs o = cs[o]? := rd_of Tryd.underlying29 sz29 rfl cs o
theorem sz30 : sz Tryd.prog 30 = some 1 := by kernel_rfl
theorem rd30 (cs : List V) (o : Nat) : readAt Tryd.prog 30 cs o = cs[o]? := rd_of Tryd.underlying30 sz30 rfl cs o
theorem sz31 : sz Tryd.prog 31 = some 1 := by kernel_rfl
theorem zc31 : zeroCells Tryd.prog 31 = some [.nilfunc] := by kernel_rfl
theorem rd31 (cs : List V) (o : Nat) : readAt Tryd.prog 31 cs o = cs[o]? := rd_of Tryd.underlying31 sz31 rfl cs o
theorem sz32 : sz Tryd.prog 32 = some 1 := by kernel_rfl
theorem zc32 : zeroCells Tryd.prog 32 = some [.nilfunc] := by kernel_rfl
theorem rd32 (cs : List V) (o : Nat) : readAt Tryd.prog 32 cs o = cs[o]? := rd_of Tryd.underlying32 sz32 rfl cs o
theorem sz33 : sz Tryd.prog 33 = some 1 := by kernel_rfl
theorem zc33 : zeroCells Tryd.prog 33 = some [.nilfunc] := by kernel_rfl
theorem rd33 (cs : List V) (o : Nat) : readAt Tryd.prog 33 cs o = cs[o]? := rd_of Tryd.underlying33 sz33 rfl cs o
theorem sz34 : sz Tryd.prog 34 = some 1 := by kernel_rfl
theorem zc34 : zeroCells Tryd.prog 34 = some [.nilfunc] := by kernel_rfl
theorem rd34 (cs : List V) (o : Nat) : readAt Tryd.prog 34 cs o = cs[o]? := rd_of Tryd.underlying34 sz34 rfl cs o
theorem sz35 : sz Tryd.prog 35 = some 1 := by kernel_rfl
theorem rd35 (cs : List V) (o : Nat) : readAt Tryd.prog 35 cs o = cs[o]? := rd_of Tryd.underlying35 sz35 rfl cs o
theorem sz36 : sz Tryd.prog 36 = some 1 := by kernel_rfl
theorem zc36 : zeroCells Tryd.prog 36 = some [.nilfunc] := by kernel_rfl
theorem rd36 (cs : List V) (o : Nat) : readAt Tryd.prog 36 cs o = cs[o]? := rd_of Tryd.underlying36 sz36 rfl cs o
theorem sz37 : sz Tryd.prog 37 = some 1 := by kernel_rfl
theorem rd37 (cs : List V) (o : Nat) : readAt Tryd.prog 37 cs o = cs[o]? := rd_of Tryd.underlying37 sz37 rfl cs o
theorem sz38 : sz Tryd.prog 38 = some 1 := by kernel_rfl
theorem zc38 : zeroCells Tryd.prog 38 = some [.nilfunc] := by kernel_rfl
theorem rd38 (cs : List V) (o : Nat) : readAt Tryd.prog 38 cs o = cs[o]? := rd_of Tryd.underlying38 sz38 rfl cs o
theorem sz39 : sz Tryd.prog 39 = some 1 := by kernel_rfl
theorem rd39 (cs : List V) (o : Nat) : readAt Tryd.prog 39 cs o = cs[o]? := rd_of Tryd.underlying39 sz39 rfl cs o
theorem sz40 : sz Tryd.prog 40 = some 1 := by kernel_rfl
theorem zc40 : zeroCells Tryd.prog 40 = some [.nilfunc] := by kernel_rfl
theorem rd40 (cs : List V) (o : Nat) : readAt Tryd.prog 40 cs o = cs[o]? := rd_of Tryd.underlying40 sz40 rfl cs o
theorem sz41 : sz Tryd.prog 41 = some 1 := by kernel_rfl
theorem zc41 : zeroCells Tryd.prog 41 = some [.nilfunc] := by kernel_rfl
theorem rd41 (cs : List V) (o : Nat) : readAt Tryd.prog 41 cs o = cs[o]? := rd_of Tryd.underlying41 sz41 rfl cs o
theorem sz42 : sz Tryd.prog 42 = some 1 := by kernel_rfl
theorem zc42 : zeroCells Tryd.prog 42 = some [.nilfunc] := by kernel_rfl
theorem rd42 (cs : List V) (o : Nat) : readAt Tryd.prog 42 cs o = cs[o]? := rd_of Tryd.underlying42 sz42 rfl cs o
theorem sz43 : sz Tryd.prog 43 = some 1 := by kernel_rfl
theorem zc43 : zeroCells Tryd.prog 43 = some [.nilfunc] := by kernel_rfl
theorem rd43 (cs : List V) (o : Nat) : readAt Tryd.prog 43 cs o = cs[o]? := rd_of Tryd.underlying43 sz43 rfl cs o
theorem sz44 : sz Tryd.prog 44 = some 1 := by kernel_rfl
theorem zc44 : zeroCells Tryd.prog 44 = some [.nilfunc] := by kernel_rfl
theorem rd44 (cs : List V) (o : Nat) : readAt Tryd.prog 44 cs o = cs[o]? := rd_of Tryd.underlying44 sz44 rfl cs o
theorem sz45 : sz Tryd.prog 45 = some 1 := by kernel_rfl
theorem zc45 : zeroCells Tryd.prog 45 = some [.nilfunc] := by kernel_rfl
theorem rd45 (cs : List V) (o : Nat) : readAt Tryd.prog 45 cs o = cs[o]? := rd_of Tryd.underlying45 sz45 rfl cs o
theorem sz46 : sz Tryd.prog 46 = some 1 := by kernel_rfl
theorem zc46 : zeroCells Tryd.prog 46 = some [.nilfunc] := by kernel_rfl
theorem rd46 (cs : List V) (o : Nat) : readAt Tryd.prog 46 cs o = cs[o]? := rd_of Tryd.underlying46 sz46 rfl cs o
theorem sz47 : sz Tryd.prog 47 = some 3 := by kernel_rfl
theorem zc47 : zeroCells Tryd.prog 47 = some [.int .i64 0, .int .i64 0, .int .i64 0] := by kernel_rfl
theorem sz48 : sz Tryd.prog 48 = some 1 := by kernel_rfl
theorem zc48 : zeroCells Tryd.prog 48 = some [.nilfunc] := by kernel_rfl
theorem rd48 (cs : List V) (o : Nat) : readAt Tryd.prog 48 cs o = cs[o]? := rd_of Tryd.underlying48 sz48 rfl cs o
theorem sz49 : sz Tryd.prog 49 = some 1 := by kernel_rfl
theorem zc49 : zeroCells Tryd.prog 49 = some [.nilfunc] := by kernel_rfl
theorem rd49 (cs : List V) (o : Nat) : readAt Tryd.prog 49 cs o = cs[o]? := rd_of Tryd.underlying49 sz49 rfl cs o
theorem sz50 : sz Tryd.prog 50 = some 1 := by kernel_rfl
theorem zc50 : zeroCells Tryd.prog 50 = some [.nilfunc] := by kernel_rfl
theorem rd50 (cs : List V) (o : Nat) : readAt Tryd.prog 50 cs o = cs[o]? := rd_of Tryd.underlying50 sz50 rfl cs o
theorem sz51 : sz Tryd.prog 51 = some 1 := by kernel_rfl
theorem zc51 : zeroCells Tryd.prog 51 = some [.nilfunc] := by kernel_rfl
theorem rd51 (cs : List V) (o : Nat) : readAt Tryd.prog 51 cs o = cs[o]? := rd_of Tryd.underlying51 sz51 rfl cs o
theorem sz52 : sz Tryd.prog 52 = some 1 := by kernel_rfl
theorem zc52 : zeroCells Tryd.prog 52 = some [.nilfunc] := by kernel_rfl
theorem rd52 (cs : List V) (o : Nat) : readAt Tryd.prog 52 cs o = cs[o]? := rd_of Tryd.underlying52 sz52 rfl cs o
theorem sz53 : sz Tryd.prog 53 = some 1 := by kernel_rfl
theorem zc53 : zeroCells Tryd.prog 53 = some [.nilfunc] := by kernel_rfl
theorem rd53 (cs : List V) (o : Nat) : readAt Tryd.prog 53 cs o = cs[o]? := rd_of Tryd.underlying53 sz53 rfl cs o
theorem sz54 : sz Tryd.prog 54 = some 1 := by kernel_rfl
theorem zc54 : zeroCells Tryd.prog 54 = some [.nilfunc] := by kernel_rfl
theorem rd54 (cs : List V) (o : Nat) : readAt Tryd.prog 54 cs o = cs[o]? := rd_of Tryd.underlying54 sz54 rfl cs o
theorem sz55 : sz Tryd.prog 55 = some 1 := by kernel_rfl
theorem zc55 : zeroCells Tryd.prog 55 = some [.nilfunc] := by kernel_rfl
theorem rd55 (cs : List V) (o : Nat) : readAt Tryd.prog 55 cs o = cs[o]? := rd_of Tryd.underlying55 sz55 rfl cs o
theorem sz56 : sz Tryd.prog 56 = some 1 := by kernel_rfl
theorem zc56 : zeroCells Tryd.prog 56 = some [.nilfunc] := by kernel_rfl
theorem rd56 (cs : List V) (o : Nat) : readAt Tryd.prog 56 cs o = cs[o]? := rd_of Tryd.underlying56 sz56 rfl cs o
theorem sz57 : sz Tryd.prog 57 = some 1 := by kernel_rfl
theorem zc57 : zeroCells Tryd.prog 57 = some [.nilfunc] := by kernel_rfl
theorem rd57 (cs : List V) (o : Nat) : readAt Tryd.prog 57 cs o = cs[o]? := rd_of Tryd.underlying57 sz57 rfl cs o
theorem sz58 : sz Tryd.prog 58 = some 1 := by kernel_rfl
theorem zc58 : zeroCells Tryd.prog 58 = some [.nilfunc] := by kernel_rfl
theorem rd58 (cs : List V) (o : Nat) : readAt Tryd.prog 58 cs o = cs[o]? := rd_of Tryd.underlying58 sz58 rfl cs o
theorem sz59 : sz Tryd.prog 59 = some 1 := by kernel_rfl
theorem zc59 : zeroCells Tryd.prog 59 = some [.int .u64 0] := by kernel_rfl
theorem rd59 (cs : List V) (o : Nat) : readAt Tryd.prog 59 cs o = cs[o]? := rd_of Tryd.underlying59 sz59 rfl cs o
theorem sz60 : sz Tryd.prog 60 = some 1 := by kernel_rfl
theorem rd60 (cs : List V) (o : Nat) : readAt Tryd.prog 60 cs o = cs[o]? := rd_of Tryd.underlying60 sz60 rfl cs o
theorem sz61 : sz Tryd.prog 61 = some 1 := by kernel_rfl
theorem zc61 : zeroCells Tryd.prog 61 = some [.nilfunc] := by kernel_rfl
theorem rd61 (cs : List V) (o : Nat) : readAt Tryd.prog 61 cs o = cs[o]? := rd_of Tryd.underlying61 sz61 rfl cs o
theorem sz62 : sz Tryd.prog 62 = some 1 := by kernel_rfl
theorem zc62 : zeroCells Tryd.prog 62 = some [.nilfunc] := by kernel_rfl
theorem rd62 (cs : List V) (o : Nat) : readAt Tryd.prog 62 cs o = cs[o]? := rd_of Tryd.underlying62 sz62 rfl cs o
theorem sz63 : sz Tryd.prog 63 = some 1 := by kernel_rfl
theorem zc63 : zeroCells Tryd.prog 63 = some [.nilfunc] := by kernel_rfl
theorem rd63 (cs : List V) (o : Nat) : readAt Tryd.prog 63 cs o = cs[o]? := rd_of Tryd.underlying63 sz63 rfl cs o
theorem sz64 : sz Tryd.prog 64 = some 1 := by kernel_rfl
theorem zc64 : zeroCells Tryd.prog 64 = some [.nilfunc] := by kernel_rfl
theorem rd64 (cs : List V) (o : Nat) : readAt Tryd.prog 64 cs o = cs[o]? := rd_of Tryd.underlying64 sz64 rfl cs o
theorem sz65 : sz Tryd.prog 65 = some 1 := by kernel_rfl
theorem zc65 : zeroCells Tryd.prog 65 = some [.int .u32 0] := by kernel_rfl
theorem rd65 (cs : List V) (o : Nat) : readAt Tryd.prog 65 cs o = cs[o]? := rd_of Tryd.underlying65 sz65 rfl cs o
theorem sz66 : sz Tryd.prog 66 = some 1 := by kernel_rfl
theorem rd66 (cs : List V) (o : Nat) : readAt Tryd.prog 66 cs o = cs[o]? := rd_of Tryd.underlying66 sz66 rfl cs o
theorem sz67 : sz Tryd.prog 67 = some 1 := by kernel_rfl
theorem zc67 : zeroCells Tryd.prog 67 = some [.nilfunc] := by kernel_rfl
theorem rd67 (cs : List V) (o : Nat) : readAt Tryd.prog 67 cs o = cs[o]? := rd_of Tryd.underlying67 sz67 rfl cs o
theorem sz68 : sz Tryd.prog 68 = some 1 := by kernel_rfl
theorem zc68 : zeroCells Tryd.prog 68 = some [.int .u64 0] := by kernel_rfl
theorem rd68 (cs : List V) (o : Nat) : readAt Tryd.prog 68 cs o = cs[o]? := rd_of Tryd.underlying68 sz68 rfl cs o
theorem sz69 : sz Tryd.prog 69 = some 1 := by kernel_rfl
theorem rd69 (cs : List V) (o : Nat) : readAt Tryd.prog 69 cs o = cs[o]? := rd_of Tryd.underlying69 sz69 rfl cs o
theorem sz70 : sz Tryd.prog 70 = some 1 := by kernel_rfl
theorem zc70 : zeroCells Tryd.prog 70 = some [.nilfunc] := by kernel_rfl
theorem rd70 (cs : List V) (o : Nat) : readAt Tryd.prog 70 cs o = cs[o]? := rd_of Tryd.underlying70 sz70 rfl cs o
theorem sz71 : sz Tryd.prog 71 = some 1 := by kernel_rfl
theorem rd71 (cs : List V) (o : Nat) : readAt Tryd.prog 71 cs o = cs[o]? := rd_of Tryd.underlying71 sz71 rfl cs o
theorem sz72 : sz Tryd.prog 72 = some 1 := by kernel_rfl
theorem zc72 : zeroCells Tryd.prog 72 = some [.nilfunc] := by kernel_rfl
theorem rd72 (cs : List V) (o : Nat) : readAt Tryd.prog 72 cs o = cs[o]? := rd_of Tryd.underlying72 sz72 rfl cs o
theorem sz73 : sz Tryd.prog 73 = some 1 := by kernel_rfl
theorem zc73 : zeroCells Tryd.prog 73 = some [.nilfunc] := by kernel_rfl
theorem rd73 (cs : List V) (o : Nat) : readAt Tryd.prog 73 cs o = cs[o]? := rd_of Tryd.underlying73 sz73 rfl cs o
theorem sz74 : sz Tryd.prog 74 = some 1 := by kernel_rfl
theorem zc74 : zeroCells Tryd.prog 74 = some [.nilfunc] := by kernel_rfl
theorem rd74 (cs : List V) (o : Nat) : readAt Tryd.prog 74 cs o = cs[o]? := rd_of Tryd.underlying74 sz74 rfl cs o
theorem sz75 : sz Tryd.prog 75 = some 1 := by kernel_rfl
theorem zc75 : zeroCells Tryd.prog 75 = some [.nilfunc] := by kernel_rfl
theorem rd75 (cs : List V) (o : Nat) : readAt Tryd.prog 75 cs o = cs[o]? := rd_of Tryd.underlying75 sz75 rfl cs o
theorem sz76 : sz Tryd.prog 76 = some 1 := by kernel_rfl
theorem zc76 : zeroCells Tryd.prog 76 = some [.nilfunc] := by kernel_rfl
theorem rd76 (cs : List V) (o : Nat) : readAt Tryd.prog 76 cs o = cs[o]? := rd_of Tryd.underlying76 sz76 rfl cs o
theorem sz77 : sz Tryd.prog 77 = some 256 := by kernel_rfl
theorem sz78 : sz Tryd.prog 78 = some 2 := by kernel_rfl
theorem zc78 : zeroCells Tryd.prog 78 = some [.int .u8 0, .int .u8 0] := by kernel_rfl
theorem sz79 : sz Tryd.prog 79 = some 2 := by kernel_rfl
theorem zc79 : zeroCells Tryd.prog 79 = some [.int .u8 0, .int .u8 0] := by kernel_rfl
theorem sz80 : sz Tryd.prog 80 = some 32 := by kernel_rfl
theorem zc80 : zeroCells Tryd.prog 80 = some [.int .u8 0, .int .u8 0, .int .u8 0, .int .u8 0, .int .u8 0, .int .u8 0, .int .u8 0, .int .u8 0, .int .u8 0, .int .u8 0, .int .u8 0, .int .u8 0, .int .u8 0, .int .u8 0, .int .u8 0, .int .u8 0, .int .u8 0, .int .u8 0, .int .u8 0, .int .u8 0, .int .u8 0, .int .u8 0, .int .u8 0, .int .u8 0, .int .u8 0, .int .u8 0, .int .u8 0, .int .u8 0, .int .u8 0, .int .u8 0, .int .u8 0, .int .u8 0] := by kernel_rfl
theorem sz81 : sz Tryd.prog 81 = some 1 := by kernel_rfl
theorem zc81 : zeroCells Tryd.prog 81 = some [.nilfunc] := by kernel_rfl
theorem rd81 (cs : List V) (o : Nat) : readAt Tryd.prog 81 cs o = cs[o]? := rd_of Tryd.underlying81 sz81 rfl cs o
theorem sz82 : sz Tryd.prog 82 = some 4 := by kernel_rfl
theorem zc82 : zeroCells Tryd.prog 82 = some [.nilptr, .nilptr, .nilptr, .str []] := by kernel_rfl
theorem sz83 : sz Tryd.prog 83 = some 4 := by kernel_rfl
theorem zc83 : zeroCells Tryd.prog 83 = some [.nilptr, .nilptr, .nilptr, .str []] := by kernel_rfl
theorem sz84 : sz Tryd.prog 84 = some 0 := by kernel_rfl
theorem zc84 : zeroCells Tryd.prog 84 = some [] := by kernel_rfl
theorem sz85 : sz Tryd.prog 85 = some 0 := by kernel_rfl
theorem zc85 : zeroCells Tryd.prog 85 = some [] := by kernel_rfl
theorem sz86 : sz Tryd.prog 86 = some 0 := by kernel_rfl
theorem zc86 : zeroCells Tryd.prog 86 = some [] := by kernel_rfl
theorem sz87 : sz Tryd.prog 87 = some 1 := by kernel_rfl
theorem zc87 : zeroCells Tryd.prog 87 = some [.int .u8 0] := by kernel_rfl
theorem rd87 (cs : List V) (o : Nat) : readAt Tryd.prog 87 cs o = cs[o]? := rd_of Tryd.underlying87 sz87 rfl cs o
theorem sz88 : sz Tryd.prog 88 = some 1 := by kernel_rfl
theorem zc88 : zeroCells Tryd.prog 88 = some [.int .u8 0] := by kernel_rfl
theorem rd88 (cs : List V) (o : Nat) : readAt Tryd.prog 88 cs o = cs[o]? := rd_of Tryd.underlying88 sz88 rfl cs o
theorem sz89 : sz Tryd.prog 89 = some 1 := by kernel_rfl
theorem zc89 : zeroCells Tryd.prog 89 = some [.nilfunc] := by kernel_rfl
theorem rd89 (cs : List V) (o : Nat) : readAt Tryd.prog 89 cs o = cs[o]? := rd_of Tryd.underlying89 sz89 rfl cs o
theorem sz90 : sz Tryd.prog 90 = some 1 := by kernel_rfl
theorem zc90 : zeroCells Tryd.prog 90 = some [.nilptr] := by kernel_rfl
theorem rd90 (cs : List V) (o : Nat) : readAt Tryd.prog 90 cs o = cs[o]? := rd_of Tryd.underlying90 sz90 rfl cs o
theorem sz91 : sz Tryd.prog 91 = some 1 := by kernel_rfl
theorem zc91 : zeroCells Tryd.prog 91 = some [.int .i32 0] := by kernel_rfl
theorem rd91 (cs : List V) (o : Nat) : readAt Tryd.prog 91 cs o = cs[o]? := rd_of Tryd.underlying91 sz91 rfl cs o
theorem sz92 : sz Tryd.prog 92 = some 1 := by kernel_rfl
theorem zc92 : zeroCells Tryd.prog 92 = some [.int .i32 0] := by kernel_rfl
theorem rd92 (cs : List V) (o : Nat) : readAt Tryd.prog 92 cs o = cs[o]? := rd_of Tryd.underlying92 sz92 rfl cs o
theorem sz93 : sz Tryd.prog 93 = some 11 := by kernel_rfl
theorem zc93 : zeroCells Tryd.prog 93 = some [.int .u64 0, .int .u64 0, .int .u32 0, .int .u8 0, .int .u8 0, .int .u8 0, .int .u8 0, .nilfunc, .nilptr, .int .i32 0, .int .i32 0] := by kernel_rfl
theorem sz94 : sz Tryd.prog 94 = some 11 := by kernel_rfl
theorem zc94 : zeroCells Tryd.prog 94 = some [.int .u64 0, .int .u64 0, .int .u32 0, .int .u8 0, .int .u8 0, .int .u8 0, .int .u8 0, .nilfunc, .nilptr, .int .i32 0, .int .i32 0] := by kernel_rfl
theorem sz95 : sz Tryd.prog 95 = some 1 := by kernel_rfl
theorem zc95 : zeroCells Tryd.prog 95 = some [.nilptr] := by kernel_rfl
theorem rd95 (cs : List V) (o : Nat) : readAt Tryd.prog 95 cs o = cs[o]? := rd_of Tryd.underlying95 sz95 rfl cs o
end Go.Proofs.YtpbhldhmjmfigaaDoor
