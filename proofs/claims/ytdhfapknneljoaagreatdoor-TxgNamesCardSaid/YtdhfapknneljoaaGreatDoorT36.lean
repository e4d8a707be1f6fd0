/- This file holds in one the texts D00, D0, DF; each says at its head what it proves. -/
import Derived.Test.YtdhfapknneljoaaGreatDoorT23
import Derived.Test.YtdhfapknneljoaaGreatDoorChecked
set_option linter.unusedSimpArgs false
set_option linter.unusedVariables false
section
/- what is taken of the program: facts that the kernel reckons. -/
namespace Go.Proofs.YtdhfapknneljoaaGreatDoor
open Go.AM
theorem draws_all : (Tryz.prog.funcs.all fun F => match F.body with | some c => drawsC c | none => true) = true := by kernel_rfl
theorem num_all : (Tryz.prog.funcs.all fun F => F.body.isNone || !(F.name == "runtime.NumGoroutine")) = true := by kernel_rfl
theorem loops_all : (Tryz.prog.funcs.all fun F => match F.body with | some c => decide ((loopIds c).Nodup) && flatC c | none => true) = true := by kernel_rfl

end Go.Proofs.YtdhfapknneljoaaGreatDoor
end
section
/- dev: the policy of the machine that knows what its functions answer, and what is taken of the program. -/
namespace Go.Proofs.YtdhfapknneljoaaGreatDoor
open Go.AM

def inlD : List Nat := [73, 24, 122, 60, 98, 233]
def polD : Pol where
  pure := fun _ g => !inlD.contains g
  mt := fun f s => [(73, 32), (26, 5), (26, 7), (98, 5), (98, 7)].contains (f, s)
  keep := fun f r => match f, r with
    | 15, 3 => some ([1, 3, 19, 20, 21], [])
    | 15, 8 => some ([3, 33, 34, 35], [7])
    | 24, 3 => some ([1, 2, 3, 11, 12, 13], [])
    | 24, 9 => some ([1, 2, 27, 28, 29], [])
    | 24, 14 => some ([2, 43, 44, 45], [9])
    | 60, 3 => some ([2, 4, 16], [6])
    | 73, 3 => some ([0, 2, 3, 9, 10, 11], [])
    | 73, 9 => some ([2, 6, 21, 22, 23], [32])
    | 121, 8 => some ([7, 8], [])
    | 122, 3 => some ([1, 5, 10, 11, 12], [7])
    | 165, 5 => some ([0, 3, 4], [])
    | 209, 2 => some ([2, 4, 5, 6], [])
    | 184, 3 => some ([0, 2, 3, 4], [])
    | 179, 1 => some ([0, 1, 2, 4], [])
    | 183, 1 => some ([0, 1, 3], [])
    | 126, 4 => some ([0, 1, 6], [])
    | 253, 3 => some ([3, 9, 10], [])
    | _, _ => none
  thin := fun _ g => g == 73
  lift := fun _ g => g == 98
  prim := fun _ => none

theorem okD : Okay Tryz.prog polD where
  mixed := Tryz.checked.mixed
  draws := fun f F c hF hc => by
    have := Array.all_eq_true_iff_forall_mem.1 draws_all F (Array.mem_of_getElem? hF)
    rwa [hc] at this
  loops := fun f F c hF hc => by
    have := Array.all_eq_true_iff_forall_mem.1 loops_all F (Array.mem_of_getElem? hF)
    rw [hc] at this
    simpa using this
  num := fun f F hF hb => by
    have := Array.all_eq_true_iff_forall_mem.1 num_all F (Array.mem_of_getElem? hF)
    cases hn : F.body with
    | none => rw [hn] at hb; cases hb
    | some c => rw [hn] at this; simpa using this
  prim := fun f g hg => by cases hg
end Go.Proofs.YtdhfapknneljoaaGreatDoor
end
section
/- facts on types, states at loops' heads: by a program of ours. -/
namespace Go.Proofs.YtdhfapknneljoaaGreatDoor
open Go.AM
theorem sz3 : sz Tryz.prog 3 = some 1 := by kernel_rfl
theorem zc3 : zeroCells Tryz.prog 3 = some [.int .i64 0] := by kernel_rfl
theorem rd3 (cs : List V) (o : Nat) : readAt Tryz.prog 3 cs o = cs[o]? := rd_of Tryz.underlying3 sz3 rfl cs o
theorem sz5 : sz Tryz.prog 5 = some 1 := by kernel_rfl
theorem zc5 : zeroCells Tryz.prog 5 = some [.int .u8 0] := by kernel_rfl
theorem rd5 (cs : List V) (o : Nat) : readAt Tryz.prog 5 cs o = cs[o]? := rd_of Tryz.underlying5 sz5 rfl cs o
theorem sz23 : sz Tryz.prog 23 = some 1 := by kernel_rfl
theorem zc23 : zeroCells Tryz.prog 23 = some [.nilslice] := by kernel_rfl
theorem rd23 (cs : List V) (o : Nat) : readAt Tryz.prog 23 cs o = cs[o]? := rd_of Tryz.underlying23 sz23 rfl cs o
theorem ln23 (g : Get) (cs : List V) (len : Nat) (full : Bool) : lenV Tryz.prog g 23 (.islice cs len full) = some (.int .i64 len) := ln_islice Tryz.underlying23 cs len full
theorem lnn23 (g : Get) : lenV Tryz.prog g 23 .nilslice = some (.int .i64 0) := ln_nil Tryz.underlying23
theorem sz24 : sz Tryz.prog 24 = some 1 := by kernel_rfl
theorem zc24 : zeroCells Tryz.prog 24 = some [.nilslice] := by kernel_rfl
theorem rd24 (cs : List V) (o : Nat) : readAt Tryz.prog 24 cs o = cs[o]? := rd_of Tryz.underlying24 sz24 rfl cs o
theorem ln24 (g : Get) (cs : List V) (len : Nat) (full : Bool) : lenV Tryz.prog g 24 (.islice cs len full) = some (.int .i64 len) := ln_islice Tryz.underlying24 cs len full
theorem lnn24 (g : Get) : lenV Tryz.prog g 24 .nilslice = some (.int .i64 0) := ln_nil Tryz.underlying24
theorem sz26 : sz Tryz.prog 26 = some 2 := by kernel_rfl
theorem zc26 : zeroCells Tryz.prog 26 = some [.nilslice, .nilslice] := by kernel_rfl
theorem rd26 (cs : List V) (o : Nat) : readAt Tryz.prog 26 cs o = if o + 2 ≤ cs.length then some (.agg ((cs.drop o).take 2)) else none := ra_of Tryz.underlying26 sz26 rfl cs o
theorem fo26_0 : foOf Tryz.prog 26 0 = some (0, 23) := by kernel_rfl
theorem ff26_0 : ffOf Tryz.prog 26 0 = some (0, 23) := by kernel_rfl
theorem fo26_1 : foOf Tryz.prog 26 1 = some (1, 24) := by kernel_rfl
theorem ff26_1 : ffOf Tryz.prog 26 1 = some (1, 24) := by kernel_rfl
theorem bv26 (parts : List (Nat × V)) : buildV Tryz.prog 26 parts = (fillV (fun i => ([(0, 1), (1, 1)] : List (Nat × Nat))[i]?) [.nilslice, .nilslice] parts).map .agg := bv_of zc26 (by kernel_rfl) parts
theorem sz27 : sz Tryz.prog 27 = some 1 := by kernel_rfl
theorem zc27 : zeroCells Tryz.prog 27 = some [.nilslice] := by kernel_rfl
theorem rd27 (cs : List V) (o : Nat) : readAt Tryz.prog 27 cs o = cs[o]? := rd_of Tryz.underlying27 sz27 rfl cs o
theorem ln27 (g : Get) (cs : List V) (len : Nat) (full : Bool) : lenV Tryz.prog g 27 (.islice cs len full) = some (.int .i64 len) := ln_islice Tryz.underlying27 cs len full
theorem lnn27 (g : Get) : lenV Tryz.prog g 27 .nilslice = some (.int .i64 0) := ln_nil Tryz.underlying27
theorem sz28 : sz Tryz.prog 28 = some 1 := by kernel_rfl
theorem zc28 : zeroCells Tryz.prog 28 = some [.int .u32 0] := by kernel_rfl
theorem rd28 (cs : List V) (o : Nat) : readAt Tryz.prog 28 cs o = cs[o]? := rd_of Tryz.underlying28 sz28 rfl cs o
theorem sz33 : sz Tryz.prog 33 = some 1 := by kernel_rfl
theorem zc33 : zeroCells Tryz.prog 33 = some [.nilslice] := by kernel_rfl
theorem rd33 (cs : List V) (o : Nat) : readAt Tryz.prog 33 cs o = cs[o]? := rd_of Tryz.underlying33 sz33 rfl cs o
theorem ln33 (g : Get) (cs : List V) (len : Nat) (full : Bool) : lenV Tryz.prog g 33 (.islice cs len full) = some (.int .i64 len) := ln_islice Tryz.underlying33 cs len full
theorem lnn33 (g : Get) : lenV Tryz.prog g 33 .nilslice = some (.int .i64 0) := ln_nil Tryz.underlying33
theorem sz108 : sz Tryz.prog 108 = some 2 := by kernel_rfl
theorem zc108 : zeroCells Tryz.prog 108 = some [.int .i64 0, .nilslice] := by kernel_rfl
theorem rd108 (cs : List V) (o : Nat) : readAt Tryz.prog 108 cs o = if o + 2 ≤ cs.length then some (.agg ((cs.drop o).take 2)) else none := ra_of Tryz.underlying108 sz108 rfl cs o
theorem fo108_0 : foOf Tryz.prog 108 0 = some (0, 3) := by kernel_rfl
theorem ff108_0 : ffOf Tryz.prog 108 0 = some (0, 3) := by kernel_rfl
theorem fo108_1 : foOf Tryz.prog 108 1 = some (1, 27) := by kernel_rfl
theorem ff108_1 : ffOf Tryz.prog 108 1 = some (1, 27) := by kernel_rfl
theorem bv108 (parts : List (Nat × V)) : buildV Tryz.prog 108 parts = (fillV (fun i => ([(0, 1), (1, 1)] : List (Nat × Nat))[i]?) [.int .i64 0, .nilslice] parts).map .agg := bv_of zc108 (by kernel_rfl) parts
theorem sz109 : sz Tryz.prog 109 = some 1 := by kernel_rfl
theorem zc109 : zeroCells Tryz.prog 109 = some [.nilfunc] := by kernel_rfl
theorem rd109 (cs : List V) (o : Nat) : readAt Tryz.prog 109 cs o = cs[o]? := rd_of Tryz.underlying109 sz109 rfl cs o
theorem sz120 : sz Tryz.prog 120 = some 1 := by kernel_rfl
theorem zc120 : zeroCells Tryz.prog 120 = some [.int .u64 0] := by kernel_rfl
theorem rd120 (cs : List V) (o : Nat) : readAt Tryz.prog 120 cs o = cs[o]? := rd_of Tryz.underlying120 sz120 rfl cs o
theorem sz187 : sz Tryz.prog 187 = some 1 := by kernel_rfl
theorem zc187 : zeroCells Tryz.prog 187 = some [.nilmap] := by kernel_rfl
theorem rd187 (cs : List V) (o : Nat) : readAt Tryz.prog 187 cs o = cs[o]? := rd_of Tryz.underlying187 sz187 rfl cs o
theorem sz250 : sz Tryz.prog 250 = some 4 := by kernel_rfl
theorem zc250 : zeroCells Tryz.prog 250 = some [.int .u32 0, .int .u32 0, .int .u32 0, .int .u32 0] := by kernel_rfl
theorem rd250 (cs : List V) (o : Nat) : readAt Tryz.prog 250 cs o = if o + 4 ≤ cs.length then some (.agg ((cs.drop o).take 4)) else none := ra_of Tryz.underlying250 sz250 rfl cs o
abbrev ta24 := And.intro @sz3 <| And.intro @zc3 <| And.intro @rd3 <| And.intro @sz5 <| And.intro @zc5 <| And.intro @rd5 <| And.intro @sz23 <| And.intro @zc23 <| And.intro @rd23 <| And.intro @ln23 <| And.intro @lnn23 <| And.intro @sz24 <| And.intro @zc24 <| And.intro @rd24 <| And.intro @ln24 <| And.intro @lnn24 <| And.intro @sz26 <| And.intro @zc26 <| And.intro @rd26 <| And.intro @fo26_0 <| And.intro @ff26_0 <| And.intro @fo26_1 <| And.intro @ff26_1 <| And.intro @bv26 <| And.intro @sz27 <| And.intro @zc27 <| And.intro @rd27 <| And.intro @ln27 <| And.intro @lnn27 <| And.intro @sz33 <| And.intro @zc33 <| And.intro @rd33 <| And.intro @ln33 <| And.intro @lnn33 <| And.intro @sz108 <| And.intro @zc108 <| And.intro @rd108 <| And.intro @fo108_0 <| And.intro @ff108_0 <| And.intro @fo108_1 <| And.intro @ff108_1 <| @bv108
abbrev ta73 := And.intro @sz3 <| And.intro @zc3 <| And.intro @rd3 <| And.intro @sz5 <| And.intro @zc5 <| And.intro @rd5 <| And.intro @sz23 <| And.intro @zc23 <| And.intro @rd23 <| And.intro @ln23 <| And.intro @lnn23 <| And.intro @sz27 <| And.intro @zc27 <| And.intro @rd27 <| And.intro @ln27 <| And.intro @lnn27 <| And.intro @sz33 <| And.intro @zc33 <| And.intro @rd33 <| And.intro @ln33 <| @lnn33
abbrev ta15 := And.intro @sz3 <| And.intro @zc3 <| And.intro @rd3 <| And.intro @sz5 <| And.intro @zc5 <| And.intro @rd5 <| And.intro @sz23 <| And.intro @zc23 <| And.intro @rd23 <| And.intro @ln23 <| And.intro @lnn23 <| And.intro @sz24 <| And.intro @zc24 <| And.intro @rd24 <| And.intro @ln24 <| And.intro @lnn24 <| And.intro @sz26 <| And.intro @zc26 <| And.intro @rd26 <| And.intro @fo26_0 <| And.intro @ff26_0 <| And.intro @fo26_1 <| And.intro @ff26_1 <| And.intro @bv26 <| And.intro @sz27 <| And.intro @zc27 <| And.intro @rd27 <| And.intro @ln27 <| And.intro @lnn27 <| And.intro @sz108 <| And.intro @zc108 <| And.intro @rd108 <| And.intro @fo108_0 <| And.intro @ff108_0 <| And.intro @fo108_1 <| And.intro @ff108_1 <| @bv108
abbrev ta57 := And.intro @sz3 <| And.intro @zc3 <| And.intro @rd3 <| And.intro @sz120 <| And.intro @zc120 <| @rd120
abbrev ta60 := And.intro @sz3 <| And.intro @zc3 <| And.intro @rd3 <| And.intro @sz5 <| And.intro @zc5 <| And.intro @rd5 <| And.intro @sz23 <| And.intro @zc23 <| And.intro @rd23 <| And.intro @ln23 <| And.intro @lnn23 <| And.intro @sz24 <| And.intro @zc24 <| And.intro @rd24 <| And.intro @ln24 <| And.intro @lnn24 <| And.intro @sz26 <| And.intro @zc26 <| And.intro @rd26 <| And.intro @fo26_0 <| And.intro @ff26_0 <| And.intro @fo26_1 <| And.intro @ff26_1 <| And.intro @bv26 <| And.intro @sz27 <| And.intro @zc27 <| And.intro @rd27 <| And.intro @ln27 <| And.intro @lnn27 <| And.intro @sz108 <| And.intro @zc108 <| And.intro @rd108 <| And.intro @fo108_0 <| And.intro @ff108_0 <| And.intro @fo108_1 <| And.intro @ff108_1 <| And.intro @bv108 <| And.intro @sz109 <| And.intro @zc109 <| And.intro @rd109 <| And.intro @sz187 <| And.intro @zc187 <| @rd187
abbrev ta122 := And.intro @sz3 <| And.intro @zc3 <| And.intro @rd3 <| And.intro @sz23 <| And.intro @zc23 <| And.intro @rd23 <| And.intro @ln23 <| And.intro @lnn23 <| And.intro @sz24 <| And.intro @zc24 <| And.intro @rd24 <| And.intro @ln24 <| And.intro @lnn24 <| And.intro @sz26 <| And.intro @zc26 <| And.intro @rd26 <| And.intro @fo26_0 <| And.intro @ff26_0 <| And.intro @fo26_1 <| And.intro @ff26_1 <| And.intro @bv26 <| And.intro @sz27 <| And.intro @zc27 <| And.intro @rd27 <| And.intro @ln27 <| And.intro @lnn27 <| And.intro @sz108 <| And.intro @zc108 <| And.intro @rd108 <| And.intro @fo108_0 <| And.intro @ff108_0 <| And.intro @fo108_1 <| And.intro @ff108_1 <| And.intro @bv108 <| And.intro @sz187 <| And.intro @zc187 <| @rd187
abbrev ta121 := And.intro @sz3 <| And.intro @zc3 <| And.intro @rd3 <| And.intro @sz33 <| And.intro @zc33 <| And.intro @rd33 <| And.intro @ln33 <| And.intro @lnn33 <| And.intro @sz120 <| And.intro @zc120 <| @rd120
abbrev ta98 := And.intro @sz23 <| And.intro @zc23 <| And.intro @rd23 <| And.intro @ln23 <| And.intro @lnn23 <| And.intro @sz27 <| And.intro @zc27 <| And.intro @rd27 <| And.intro @ln27 <| @lnn27
abbrev ta26 := And.intro @sz5 <| And.intro @zc5 <| And.intro @rd5 <| And.intro @sz27 <| And.intro @zc27 <| And.intro @rd27 <| And.intro @ln27 <| @lnn27
abbrev ta56 := And.intro @sz3 <| And.intro @zc3 <| And.intro @rd3 <| And.intro @sz23 <| And.intro @zc23 <| And.intro @rd23 <| And.intro @ln23 <| And.intro @lnn23 <| And.intro @sz24 <| And.intro @zc24 <| And.intro @rd24 <| And.intro @ln24 <| And.intro @lnn24 <| And.intro @sz26 <| And.intro @zc26 <| And.intro @rd26 <| And.intro @fo26_0 <| And.intro @ff26_0 <| And.intro @fo26_1 <| And.intro @ff26_1 <| And.intro @bv26 <| And.intro @sz33 <| And.intro @zc33 <| And.intro @rd33 <| And.intro @ln33 <| @lnn33
abbrev ta226 := And.intro @sz3 <| And.intro @zc3 <| And.intro @rd3 <| And.intro @sz28 <| And.intro @zc28 <| And.intro @rd28 <| And.intro @sz250 <| And.intro @zc250 <| @rd250
abbrev ta233 := And.intro @sz3 <| And.intro @zc3 <| And.intro @rd3 <| And.intro @sz28 <| And.intro @zc28 <| And.intro @rd28 <| And.intro @sz250 <| And.intro @zc250 <| @rd250
abbrev ta209 := And.intro @sz3 <| And.intro @zc3 <| And.intro @rd3 <| And.intro @sz28 <| And.intro @zc28 <| And.intro @rd28 <| And.intro @sz250 <| And.intro @zc250 <| @rd250
abbrev ta234 := And.intro @sz3 <| And.intro @zc3 <| And.intro @rd3 <| And.intro @sz28 <| And.intro @zc28 <| And.intro @rd28 <| And.intro @sz120 <| And.intro @zc120 <| @rd120
abbrev ta165 := And.intro @sz3 <| And.intro @zc3 <| And.intro @rd3 <| And.intro @sz5 <| And.intro @zc5 <| And.intro @rd5 <| And.intro @sz27 <| And.intro @zc27 <| And.intro @rd27 <| And.intro @ln27 <| @lnn27
abbrev ta62 := And.intro @sz3 <| And.intro @zc3 <| And.intro @rd3 <| And.intro @sz5 <| And.intro @zc5 <| And.intro @rd5 <| And.intro @sz27 <| And.intro @zc27 <| And.intro @rd27 <| And.intro @ln27 <| @lnn27
abbrev ta123 := And.intro @sz3 <| And.intro @zc3 <| @rd3
abbrev ta124 := And.intro @sz5 <| And.intro @zc5 <| And.intro @rd5 <| And.intro @sz27 <| And.intro @zc27 <| And.intro @rd27 <| And.intro @ln27 <| @lnn27
abbrev ta183 := And.intro @sz3 <| And.intro @zc3 <| And.intro @rd3 <| And.intro @sz5 <| And.intro @zc5 <| And.intro @rd5 <| And.intro @sz27 <| And.intro @zc27 <| And.intro @rd27 <| And.intro @ln27 <| @lnn27
abbrev ta113 := And.intro @sz3 <| And.intro @zc3 <| And.intro @rd3 <| And.intro @sz5 <| And.intro @zc5 <| And.intro @rd5 <| And.intro @sz27 <| And.intro @zc27 <| And.intro @rd27 <| And.intro @ln27 <| @lnn27
abbrev ta179 := And.intro @sz3 <| And.intro @zc3 <| And.intro @rd3 <| And.intro @sz5 <| And.intro @zc5 <| And.intro @rd5 <| And.intro @sz27 <| And.intro @zc27 <| And.intro @rd27 <| And.intro @ln27 <| @lnn27
abbrev ta207 := And.intro @sz5 <| And.intro @zc5 <| And.intro @rd5 <| And.intro @sz27 <| And.intro @zc27 <| And.intro @rd27 <| And.intro @ln27 <| @lnn27
abbrev ta184 := And.intro @sz3 <| And.intro @zc3 <| And.intro @rd3 <| And.intro @sz5 <| And.intro @zc5 <| And.intro @rd5 <| And.intro @sz27 <| And.intro @zc27 <| And.intro @rd27 <| And.intro @ln27 <| And.intro @lnn27 <| And.intro @sz28 <| And.intro @zc28 <| And.intro @rd28 <| And.intro @sz250 <| And.intro @zc250 <| @rd250
abbrev ta208 := And.intro @sz3 <| And.intro @zc3 <| And.intro @rd3 <| And.intro @sz5 <| And.intro @zc5 <| And.intro @rd5 <| And.intro @sz27 <| And.intro @zc27 <| And.intro @rd27 <| And.intro @ln27 <| And.intro @lnn27 <| And.intro @sz28 <| And.intro @zc28 <| @rd28
abbrev ta253 := And.intro @sz3 <| And.intro @zc3 <| And.intro @rd3 <| And.intro @sz5 <| And.intro @zc5 <| And.intro @rd5 <| And.intro @sz27 <| And.intro @zc27 <| And.intro @rd27 <| And.intro @ln27 <| And.intro @lnn27 <| And.intro @sz28 <| And.intro @zc28 <| And.intro @rd28 <| And.intro @sz250 <| And.intro @zc250 <| @rd250
abbrev ta126 := And.intro @sz3 <| And.intro @zc3 <| And.intro @rd3 <| And.intro @sz5 <| And.intro @zc5 <| And.intro @rd5 <| And.intro @sz27 <| And.intro @zc27 <| And.intro @rd27 <| And.intro @ln27 <| @lnn27
abbrev ta115 := And.intro @sz5 <| And.intro @zc5 <| And.intro @rd5 <| And.intro @sz27 <| And.intro @zc27 <| And.intro @rd27 <| And.intro @ln27 <| @lnn27
abbrev ta127 := And.intro @sz5 <| And.intro @zc5 <| And.intro @rd5 <| And.intro @sz27 <| And.intro @zc27 <| And.intro @rd27 <| And.intro @ln27 <| And.intro @lnn27 <| And.intro @sz28 <| And.intro @zc28 <| And.intro @rd28 <| And.intro @sz250 <| And.intro @zc250 <| @rd250
def st15_3 (v1 v3 v19 v20 v21 : V) : List V := [.bad, v1, .bad, v3, .bad, .bad, .bad, .bad, .bad, .bad, .bad, .bad, .bad, .bad, .bad, .bad, .bad, .bad, .bad, v19, v20, v21, .bad, .bad, .bad, .bad, .bad, .bad, .bad, .bad, .bad, .bad, .bad, .bad, .bad, .bad, .bad, .bad, .bad, .bad, .bad, .bad, .bad, .bad, .bad, .bad, .bad, .bad, .bad, .bad, .bad, .bad, .bad]
def st15_8 (v3 v33 v34 v35 : V) : List V := [.bad, .bad, .bad, v3, .bad, .bad, .bad, .bad, .bad, .bad, .bad, .bad, .bad, .bad, .bad, .bad, .bad, .bad, .bad, .bad, .bad, .bad, .bad, .bad, .bad, .bad, .bad, .bad, .bad, .bad, .bad, .bad, .bad, v33, v34, v35, .bad, .bad, .bad, .bad, .bad, .bad, .bad, .bad, .bad, .bad, .bad, .bad, .bad, .bad, .bad, .bad, .bad]
def st24_3 (v1 v2 v3 v11 v12 v13 : V) : List V := [.bad, v1, v2, v3, .bad, .bad, .bad, .bad, .bad, .bad, .bad, v11, v12, v13, .bad, .bad, .bad, .bad, .bad, .bad, .bad, .bad, .bad, .bad, .bad, .bad, .bad, .bad, .bad, .bad, .bad, .bad, .bad, .bad, .bad, .bad, .bad, .bad, .bad, .bad, .bad, .bad, .bad, .bad, .bad, .bad, .bad, .bad, .bad, .bad, .bad, .bad, .bad, .bad, .bad, .bad, .bad, .bad, .bad, .bad, .bad]
def st24_9 (v1 v2 v27 v28 v29 : V) : List V := [.bad, v1, v2, .bad, .bad, .bad, .bad, .bad, .bad, .bad, .bad, .bad, .bad, .bad, .bad, .bad, .bad, .bad, .bad, .bad, .bad, .bad, .bad, .bad, .bad, .bad, .bad, v27, v28, v29, .bad, .bad, .bad, .bad, .bad, .bad, .bad, .bad, .bad, .bad, .bad, .bad, .bad, .bad, .bad, .bad, .bad, .bad, .bad, .bad, .bad, .bad, .bad, .bad, .bad, .bad, .bad, .bad, .bad, .bad, .bad]
def st24_14 (v2 v43 v44 v45 : V) : List V := [.bad, .bad, v2, .bad, .bad, .bad, .bad, .bad, .bad, .bad, .bad, .bad, .bad, .bad, .bad, .bad, .bad, .bad, .bad, .bad, .bad, .bad, .bad, .bad, .bad, .bad, .bad, .bad, .bad, .bad, .bad, .bad, .bad, .bad, .bad, .bad, .bad, .bad, .bad, .bad, .bad, .bad, .bad, v43, v44, v45, .bad, .bad, .bad, .bad, .bad, .bad, .bad, .bad, .bad, .bad, .bad, .bad, .bad, .bad, .bad]
def st60_3 (v2 v4 v16 : V) : List V := [.bad, .bad, v2, .bad, v4, .bad, .bad, .bad, .bad, .bad, .bad, .bad, .bad, .bad, .bad, .bad, v16, .bad, .bad, .bad, .bad, .bad, .bad, .bad, .bad, .bad, .bad, .bad, .bad, .bad, .bad]
def st73_3 (v0 v2 v3 v9 v10 v11 : V) : List V := [v0, .bad, v2, v3, .bad, .bad, .bad, .bad, .bad, v9, v10, v11, .bad, .bad, .bad, .bad, .bad, .bad, .bad, .bad, .bad, .bad, .bad, .bad, .bad, .bad, .bad, .bad, .bad, .bad, .bad, .bad, .bad, .bad, .bad, .bad, .bad, .bad]
def st73_9 (v2 v6 v21 v22 v23 : V) : List V := [.bad, .bad, v2, .bad, .bad, .bad, v6, .bad, .bad, .bad, .bad, .bad, .bad, .bad, .bad, .bad, .bad, .bad, .bad, .bad, .bad, v21, v22, v23, .bad, .bad, .bad, .bad, .bad, .bad, .bad, .bad, .bad, .bad, .bad, .bad, .bad, .bad]
def st121_8 (v7 v8 : V) : List V := [.bad, .bad, .bad, .bad, .bad, .bad, .bad, v7, v8, .bad, .bad, .bad, .bad, .bad, .bad, .bad, .bad, .bad, .bad, .bad, .bad, .bad, .bad, .bad, .bad, .bad, .bad, .bad, .bad, .bad, .bad, .bad, .bad, .bad, .bad, .bad, .bad, .bad, .bad, .bad, .bad, .bad, .bad, .bad, .bad, .bad, .bad, .bad]
def st122_3 (v1 v5 v10 v11 v12 : V) : List V := [.bad, v1, .bad, .bad, .bad, v5, .bad, .bad, .bad, .bad, v10, v11, v12, .bad, .bad, .bad, .bad, .bad, .bad, .bad, .bad, .bad, .bad, .bad, .bad, .bad]
def st126_4 (v0 v1 v6 : V) : List V := [v0, v1, .bad, .bad, .bad, .bad, v6, .bad, .bad, .bad, .bad, .bad, .bad, .bad, .bad, .bad, .bad, .bad, .bad, .bad, .bad, .bad, .bad, .bad, .bad, .bad, .bad, .bad, .bad, .bad, .bad, .bad, .bad]
def st165_5 (v0 v3 v4 : V) : List V := [v0, .bad, .bad, v3, v4, .bad, .bad, .bad, .bad, .bad, .bad, .bad, .bad, .bad, .bad, .bad, .bad, .bad, .bad, .bad, .bad, .bad, .bad, .bad, .bad]
def st179_1 (v0 v1 v2 v4 : V) : List V := [v0, v1, v2, .bad, v4, .bad, .bad, .bad, .bad, .bad, .bad, .bad, .bad, .bad, .bad, .bad, .bad, .bad, .bad, .bad, .bad, .bad, .bad, .bad, .bad, .bad, .bad, .bad, .bad, .bad, .bad]
def st183_1 (v0 v1 v3 : V) : List V := [v0, v1, .bad, v3, .bad, .bad, .bad, .bad, .bad, .bad, .bad, .bad, .bad, .bad, .bad, .bad, .bad, .bad, .bad]
def st184_3 (v0 v2 v3 v4 : V) : List V := [v0, .bad, v2, v3, v4, .bad, .bad, .bad, .bad, .bad, .bad, .bad, .bad, .bad, .bad, .bad, .bad, .bad, .bad, .bad, .bad, .bad, .bad, .bad, .bad, .bad, .bad, .bad, .bad, .bad, .bad, .bad, .bad, .bad, .bad, .bad, .bad, .bad, .bad, .bad, .bad, .bad, .bad, .bad, .bad, .bad, .bad]
def st209_2 (v2 v4 v5 v6 : V) : List V := [.bad, .bad, v2, .bad, v4, v5, v6, .bad, .bad, .bad, .bad, .bad]
def st253_3 (v3 v9 v10 : V) : List V := [.bad, .bad, .bad, v3, .bad, .bad, .bad, .bad, .bad, v9, v10, .bad, .bad, .bad, .bad, .bad, .bad, .bad, .bad, .bad, .bad, .bad, .bad, .bad]
end Go.Proofs.YtdhfapknneljoaaGreatDoor
end
