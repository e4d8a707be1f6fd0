/- This file holds in one the texts D00, D0, DF; each says at its head what it proves. -/
import Derived.Test.YtafhcdagifopeaaGreatDoorT22
import Derived.Test.YtafhcdagifopeaaGreatDoorChecked
set_option linter.unusedSimpArgs false
set_option linter.unusedVariables false
section
/- what is taken of the program: facts that the kernel reckons. -/
namespace Go.Proofs.YtafhcdagifopeaaGreatDoor
open Go.AM
theorem all_part {α : Type} (g : α → Bool) (l : List α) (c : Nat) : ∀ k : Nat, (∀ i, i < k → ((l.drop (c * i)).take c).all g = true) → (l.drop (c * k)).all g = true → l.all g = true
  | 0, _, h => by simpa using h
  | k + 1, h1, h2 => by
    refine all_part g l c k (fun i hi => h1 i (by omega)) ?_
    have e : l.drop (c * k) = (l.drop (c * k)).take c ++ l.drop (c * (k + 1)) := by
      have := (List.take_append_drop c (l.drop (c * k))).symm
      rw [List.drop_drop] at this
      rw [Nat.mul_succ]; exact this
    rw [e, List.all_append, h1 k (by omega), h2]; rfl
def gD (F : Func) : Bool := match F.body with | some c => drawsC c | none => true
def gN (F : Func) : Bool := F.body.isNone || !(F.name == "runtime.NumGoroutine")
def gL (F : Func) : Bool := match F.body with | some c => decide ((loopIds c).Nodup) && flatC c | none => true
theorem dr0 : ((Tryz.prog.funcs.toList.drop (40 * 0)).take 40).all gD = true := by kernel_rfl
theorem dr1 : ((Tryz.prog.funcs.toList.drop (40 * 1)).take 40).all gD = true := by kernel_rfl
theorem dr2 : ((Tryz.prog.funcs.toList.drop (40 * 2)).take 40).all gD = true := by kernel_rfl
theorem dr3 : ((Tryz.prog.funcs.toList.drop (40 * 3)).take 40).all gD = true := by kernel_rfl
theorem dr4 : ((Tryz.prog.funcs.toList.drop (40 * 4)).take 40).all gD = true := by kernel_rfl
theorem dr5 : ((Tryz.prog.funcs.toList.drop (40 * 5)).take 40).all gD = true := by kernel_rfl
theorem dr6 : ((Tryz.prog.funcs.toList.drop (40 * 6)).take 40).all gD = true := by kernel_rfl
theorem dr7 : ((Tryz.prog.funcs.toList.drop (40 * 7)).take 40).all gD = true := by kernel_rfl
theorem drE : (Tryz.prog.funcs.toList.drop (40 * 8)).all gD = true := by kernel_rfl
theorem draws_all : Tryz.prog.funcs.all gD = true := by
  rw [← Array.all_toList]
  refine all_part gD _ 40 8 ?_ drE
  intro i hi
  match i, hi with
  | 0, _ => exact dr0
  | 1, _ => exact dr1
  | 2, _ => exact dr2
  | 3, _ => exact dr3
  | 4, _ => exact dr4
  | 5, _ => exact dr5
  | 6, _ => exact dr6
  | 7, _ => exact dr7
  | n + 8, h => omega
theorem num_all : Tryz.prog.funcs.all gN = true := by kernel_rfl
theorem loops_all : Tryz.prog.funcs.all gL = true := by kernel_rfl
end Go.Proofs.YtafhcdagifopeaaGreatDoor
end
section
/- dev: the policy of the machine that knows what its functions answer, and what is taken of the program. -/
namespace Go.Proofs.YtafhcdagifopeaaGreatDoor
open Go.AM

def inlD : List Nat := [155, 141, 212, 177, 96, 271]
def polD : Pol where
  pure := fun _ g => !inlD.contains g
  mt := fun f s => [(155, 32), (53, 5), (53, 7), (96, 5), (96, 7)].contains (f, s)
  keep := fun f r => match f, r with
    | 126, 3 => some ([1, 3, 19, 20, 21], [])
    | 126, 8 => some ([3, 33, 34, 35], [7])
    | 141, 3 => some ([1, 2, 3, 11, 12, 13], [])
    | 141, 9 => some ([1, 2, 27, 28, 29], [])
    | 141, 14 => some ([2, 43, 44, 45], [9])
    | 177, 3 => some ([2, 4, 16], [6])
    | 155, 3 => some ([0, 2, 3, 9, 10, 11], [])
    | 155, 9 => some ([2, 6, 21, 22, 23], [32])
    | 156, 8 => some ([7, 8], [])
    | 212, 3 => some ([1, 5, 10, 11, 12], [7])
    | 185, 5 => some ([0, 3, 4], [])
    | 221, 2 => some ([2, 4, 5, 6], [])
    | 189, 3 => some ([0, 2, 3, 4], [])
    | 105, 1 => some ([0, 1, 2, 4], [])
    | 273, 1 => some ([0, 1, 3], [])
    | 88, 4 => some ([0, 1, 6], [])
    | 136, 3 => some ([3, 9, 10], [])
    | _, _ => none
  thin := fun _ g => g == 155
  lift := fun _ g => g == 96
  prim := fun _ => none

theorem okD : Okay Tryz.prog polD where
  mixed := Tryz.checked.mixed
  draws := fun f F c hF hc => by
    have := Array.all_eq_true_iff_forall_mem.1 draws_all F (Array.mem_of_getElem? hF)
    unfold gD at this
    rwa [hc] at this
  loops := fun f F c hF hc => by
    have := Array.all_eq_true_iff_forall_mem.1 loops_all F (Array.mem_of_getElem? hF)
    unfold gL at this
    rw [hc] at this
    simpa using this
  num := fun f F hF hb => by
    have := Array.all_eq_true_iff_forall_mem.1 num_all F (Array.mem_of_getElem? hF)
    unfold gN at this
    cases hn : F.body with
    | none => rw [hn] at hb; cases hb
    | some c => rw [hn] at this; simpa using this
  prim := fun f g hg => by cases hg
end Go.Proofs.YtafhcdagifopeaaGreatDoor
end
section
/- facts on types, states at loops' heads: by a program of ours. -/
namespace Go.Proofs.YtafhcdagifopeaaGreatDoor
open Go.AM
theorem sz3 : sz Tryz.prog 3 = some 1 := by kernel_rfl
theorem zc3 : zeroCells Tryz.prog 3 = some [.int .i64 0] := by kernel_rfl
theorem rd3 (cs : List V) (o : Nat) : readAt Tryz.prog 3 cs o = cs[o]? := rd_of Tryz.underlying3 sz3 rfl cs o
theorem sz5 : sz Tryz.prog 5 = some 1 := by kernel_rfl
theorem zc5 : zeroCells Tryz.prog 5 = some [.int .u8 0] := by kernel_rfl
theorem rd5 (cs : List V) (o : Nat) : readAt Tryz.prog 5 cs o = cs[o]? := rd_of Tryz.underlying5 sz5 rfl cs o
theorem sz22 : sz Tryz.prog 22 = some 1 := by kernel_rfl
theorem zc22 : zeroCells Tryz.prog 22 = some [.nilslice] := by kernel_rfl
theorem rd22 (cs : List V) (o : Nat) : readAt Tryz.prog 22 cs o = cs[o]? := rd_of Tryz.underlying22 sz22 rfl cs o
theorem ln22 (g : Get) (cs : List V) (len : Nat) (full : Bool) : lenV Tryz.prog g 22 (.islice cs len full) = some (.int .i64 len) := ln_islice Tryz.underlying22 cs len full
theorem lnn22 (g : Get) : lenV Tryz.prog g 22 .nilslice = some (.int .i64 0) := ln_nil Tryz.underlying22
theorem sz23 : sz Tryz.prog 23 = some 1 := by kernel_rfl
theorem zc23 : zeroCells Tryz.prog 23 = some [.nilslice] := by kernel_rfl
theorem rd23 (cs : List V) (o : Nat) : readAt Tryz.prog 23 cs o = cs[o]? := rd_of Tryz.underlying23 sz23 rfl cs o
theorem ln23 (g : Get) (cs : List V) (len : Nat) (full : Bool) : lenV Tryz.prog g 23 (.islice cs len full) = some (.int .i64 len) := ln_islice Tryz.underlying23 cs len full
theorem lnn23 (g : Get) : lenV Tryz.prog g 23 .nilslice = some (.int .i64 0) := ln_nil Tryz.underlying23
theorem sz25 : sz Tryz.prog 25 = some 2 := by kernel_rfl
theorem zc25 : zeroCells Tryz.prog 25 = some [.nilslice, .nilslice] := by kernel_rfl
theorem rd25 (cs : List V) (o : Nat) : readAt Tryz.prog 25 cs o = if o + 2 ≤ cs.length then some (.agg ((cs.drop o).take 2)) else none := ra_of Tryz.underlying25 sz25 rfl cs o
theorem fo25_0 : foOf Tryz.prog 25 0 = some (0, 22) := by kernel_rfl
theorem ff25_0 : ffOf Tryz.prog 25 0 = some (0, 22) := by kernel_rfl
theorem fo25_1 : foOf Tryz.prog 25 1 = some (1, 23) := by kernel_rfl
theorem ff25_1 : ffOf Tryz.prog 25 1 = some (1, 23) := by kernel_rfl
theorem bv25 (parts : List (Nat × V)) : buildV Tryz.prog 25 parts = (fillV (fun i => ([(0, 1), (1, 1)] : List (Nat × Nat))[i]?) [.nilslice, .nilslice] parts).map .agg := bv_of zc25 (by kernel_rfl) parts
theorem sz26 : sz Tryz.prog 26 = some 1 := by kernel_rfl
theorem zc26 : zeroCells Tryz.prog 26 = some [.nilslice] := by kernel_rfl
theorem rd26 (cs : List V) (o : Nat) : readAt Tryz.prog 26 cs o = cs[o]? := rd_of Tryz.underlying26 sz26 rfl cs o
theorem ln26 (g : Get) (cs : List V) (len : Nat) (full : Bool) : lenV Tryz.prog g 26 (.islice cs len full) = some (.int .i64 len) := ln_islice Tryz.underlying26 cs len full
theorem lnn26 (g : Get) : lenV Tryz.prog g 26 .nilslice = some (.int .i64 0) := ln_nil Tryz.underlying26
theorem sz27 : sz Tryz.prog 27 = some 1 := by kernel_rfl
theorem zc27 : zeroCells Tryz.prog 27 = some [.int .u32 0] := by kernel_rfl
theorem rd27 (cs : List V) (o : Nat) : readAt Tryz.prog 27 cs o = cs[o]? := rd_of Tryz.underlying27 sz27 rfl cs o
theorem sz32 : sz Tryz.prog 32 = some 1 := by kernel_rfl
theorem zc32 : zeroCells Tryz.prog 32 = some [.nilslice] := by kernel_rfl
theorem rd32 (cs : List V) (o : Nat) : readAt Tryz.prog 32 cs o = cs[o]? := rd_of Tryz.underlying32 sz32 rfl cs o
theorem ln32 (g : Get) (cs : List V) (len : Nat) (full : Bool) : lenV Tryz.prog g 32 (.islice cs len full) = some (.int .i64 len) := ln_islice Tryz.underlying32 cs len full
theorem lnn32 (g : Get) : lenV Tryz.prog g 32 .nilslice = some (.int .i64 0) := ln_nil Tryz.underlying32
theorem sz86 : sz Tryz.prog 86 = some 1 := by kernel_rfl
theorem zc86 : zeroCells Tryz.prog 86 = some [.nilfunc] := by kernel_rfl
theorem rd86 (cs : List V) (o : Nat) : readAt Tryz.prog 86 cs o = cs[o]? := rd_of Tryz.underlying86 sz86 rfl cs o
theorem sz203 : sz Tryz.prog 203 = some 1 := by kernel_rfl
theorem zc203 : zeroCells Tryz.prog 203 = some [.int .u64 0] := by kernel_rfl
theorem rd203 (cs : List V) (o : Nat) : readAt Tryz.prog 203 cs o = cs[o]? := rd_of Tryz.underlying203 sz203 rfl cs o
theorem sz242 : sz Tryz.prog 242 = some 2 := by kernel_rfl
theorem zc242 : zeroCells Tryz.prog 242 = some [.int .i64 0, .nilslice] := by kernel_rfl
theorem rd242 (cs : List V) (o : Nat) : readAt Tryz.prog 242 cs o = if o + 2 ≤ cs.length then some (.agg ((cs.drop o).take 2)) else none := ra_of Tryz.underlying242 sz242 rfl cs o
theorem fo242_0 : foOf Tryz.prog 242 0 = some (0, 3) := by kernel_rfl
theorem ff242_0 : ffOf Tryz.prog 242 0 = some (0, 3) := by kernel_rfl
theorem fo242_1 : foOf Tryz.prog 242 1 = some (1, 26) := by kernel_rfl
theorem ff242_1 : ffOf Tryz.prog 242 1 = some (1, 26) := by kernel_rfl
theorem bv242 (parts : List (Nat × V)) : buildV Tryz.prog 242 parts = (fillV (fun i => ([(0, 1), (1, 1)] : List (Nat × Nat))[i]?) [.int .i64 0, .nilslice] parts).map .agg := bv_of zc242 (by kernel_rfl) parts
theorem sz247 : sz Tryz.prog 247 = some 4 := by kernel_rfl
theorem zc247 : zeroCells Tryz.prog 247 = some [.int .u32 0, .int .u32 0, .int .u32 0, .int .u32 0] := by kernel_rfl
theorem rd247 (cs : List V) (o : Nat) : readAt Tryz.prog 247 cs o = if o + 4 ≤ cs.length then some (.agg ((cs.drop o).take 4)) else none := ra_of Tryz.underlying247 sz247 rfl cs o
theorem sz271 : sz Tryz.prog 271 = some 1 := by kernel_rfl
theorem zc271 : zeroCells Tryz.prog 271 = some [.nilmap] := by kernel_rfl
theorem rd271 (cs : List V) (o : Nat) : readAt Tryz.prog 271 cs o = cs[o]? := rd_of Tryz.underlying271 sz271 rfl cs o
abbrev ta141 := And.intro @sz3 <| And.intro @zc3 <| And.intro @rd3 <| And.intro @sz5 <| And.intro @zc5 <| And.intro @rd5 <| And.intro @sz22 <| And.intro @zc22 <| And.intro @rd22 <| And.intro @ln22 <| And.intro @lnn22 <| And.intro @sz23 <| And.intro @zc23 <| And.intro @rd23 <| And.intro @ln23 <| And.intro @lnn23 <| And.intro @sz25 <| And.intro @zc25 <| And.intro @rd25 <| And.intro @fo25_0 <| And.intro @ff25_0 <| And.intro @fo25_1 <| And.intro @ff25_1 <| And.intro @bv25 <| And.intro @sz26 <| And.intro @zc26 <| And.intro @rd26 <| And.intro @ln26 <| And.intro @lnn26 <| And.intro @sz32 <| And.intro @zc32 <| And.intro @rd32 <| And.intro @ln32 <| And.intro @lnn32 <| And.intro @sz242 <| And.intro @zc242 <| And.intro @rd242 <| And.intro @fo242_0 <| And.intro @ff242_0 <| And.intro @fo242_1 <| And.intro @ff242_1 <| @bv242
abbrev ta126 := And.intro @sz3 <| And.intro @zc3 <| And.intro @rd3 <| And.intro @sz5 <| And.intro @zc5 <| And.intro @rd5 <| And.intro @sz22 <| And.intro @zc22 <| And.intro @rd22 <| And.intro @ln22 <| And.intro @lnn22 <| And.intro @sz23 <| And.intro @zc23 <| And.intro @rd23 <| And.intro @ln23 <| And.intro @lnn23 <| And.intro @sz25 <| And.intro @zc25 <| And.intro @rd25 <| And.intro @fo25_0 <| And.intro @ff25_0 <| And.intro @fo25_1 <| And.intro @ff25_1 <| And.intro @bv25 <| And.intro @sz26 <| And.intro @zc26 <| And.intro @rd26 <| And.intro @ln26 <| And.intro @lnn26 <| And.intro @sz242 <| And.intro @zc242 <| And.intro @rd242 <| And.intro @fo242_0 <| And.intro @ff242_0 <| And.intro @fo242_1 <| And.intro @ff242_1 <| @bv242
abbrev ta177 := And.intro @sz3 <| And.intro @zc3 <| And.intro @rd3 <| And.intro @sz5 <| And.intro @zc5 <| And.intro @rd5 <| And.intro @sz22 <| And.intro @zc22 <| And.intro @rd22 <| And.intro @ln22 <| And.intro @lnn22 <| And.intro @sz23 <| And.intro @zc23 <| And.intro @rd23 <| And.intro @ln23 <| And.intro @lnn23 <| And.intro @sz25 <| And.intro @zc25 <| And.intro @rd25 <| And.intro @fo25_0 <| And.intro @ff25_0 <| And.intro @fo25_1 <| And.intro @ff25_1 <| And.intro @bv25 <| And.intro @sz26 <| And.intro @zc26 <| And.intro @rd26 <| And.intro @ln26 <| And.intro @lnn26 <| And.intro @sz86 <| And.intro @zc86 <| And.intro @rd86 <| And.intro @sz242 <| And.intro @zc242 <| And.intro @rd242 <| And.intro @fo242_0 <| And.intro @ff242_0 <| And.intro @fo242_1 <| And.intro @ff242_1 <| And.intro @bv242 <| And.intro @sz271 <| And.intro @zc271 <| @rd271
abbrev ta212 := And.intro @sz3 <| And.intro @zc3 <| And.intro @rd3 <| And.intro @sz22 <| And.intro @zc22 <| And.intro @rd22 <| And.intro @ln22 <| And.intro @lnn22 <| And.intro @sz23 <| And.intro @zc23 <| And.intro @rd23 <| And.intro @ln23 <| And.intro @lnn23 <| And.intro @sz25 <| And.intro @zc25 <| And.intro @rd25 <| And.intro @fo25_0 <| And.intro @ff25_0 <| And.intro @fo25_1 <| And.intro @ff25_1 <| And.intro @bv25 <| And.intro @sz26 <| And.intro @zc26 <| And.intro @rd26 <| And.intro @ln26 <| And.intro @lnn26 <| And.intro @sz242 <| And.intro @zc242 <| And.intro @rd242 <| And.intro @fo242_0 <| And.intro @ff242_0 <| And.intro @fo242_1 <| And.intro @ff242_1 <| And.intro @bv242 <| And.intro @sz271 <| And.intro @zc271 <| @rd271
abbrev ta117 := And.intro @sz3 <| And.intro @zc3 <| And.intro @rd3 <| And.intro @sz22 <| And.intro @zc22 <| And.intro @rd22 <| And.intro @ln22 <| And.intro @lnn22 <| And.intro @sz23 <| And.intro @zc23 <| And.intro @rd23 <| And.intro @ln23 <| And.intro @lnn23 <| And.intro @sz25 <| And.intro @zc25 <| And.intro @rd25 <| And.intro @fo25_0 <| And.intro @ff25_0 <| And.intro @fo25_1 <| And.intro @ff25_1 <| And.intro @bv25 <| And.intro @sz32 <| And.intro @zc32 <| And.intro @rd32 <| And.intro @ln32 <| @lnn32
abbrev ta250 := And.intro @sz3 <| And.intro @zc3 <| And.intro @rd3 <| And.intro @sz27 <| And.intro @zc27 <| And.intro @rd27 <| And.intro @sz247 <| And.intro @zc247 <| @rd247
abbrev ta271 := And.intro @sz3 <| And.intro @zc3 <| And.intro @rd3 <| And.intro @sz27 <| And.intro @zc27 <| And.intro @rd27 <| And.intro @sz247 <| And.intro @zc247 <| @rd247
abbrev ta221 := And.intro @sz3 <| And.intro @zc3 <| And.intro @rd3 <| And.intro @sz27 <| And.intro @zc27 <| And.intro @rd27 <| And.intro @sz247 <| And.intro @zc247 <| @rd247
abbrev ta272 := And.intro @sz3 <| And.intro @zc3 <| And.intro @rd3 <| And.intro @sz27 <| And.intro @zc27 <| And.intro @rd27 <| And.intro @sz203 <| And.intro @zc203 <| @rd203
abbrev ta185 := And.intro @sz3 <| And.intro @zc3 <| And.intro @rd3 <| And.intro @sz5 <| And.intro @zc5 <| And.intro @rd5 <| And.intro @sz26 <| And.intro @zc26 <| And.intro @rd26 <| And.intro @ln26 <| @lnn26
abbrev ta223 := And.intro @sz3 <| And.intro @zc3 <| And.intro @rd3 <| And.intro @sz5 <| And.intro @zc5 <| And.intro @rd5 <| And.intro @sz26 <| And.intro @zc26 <| And.intro @rd26 <| And.intro @ln26 <| @lnn26
abbrev ta138 := And.intro @sz3 <| And.intro @zc3 <| @rd3
abbrev ta251 := And.intro @sz5 <| And.intro @zc5 <| And.intro @rd5 <| And.intro @sz26 <| And.intro @zc26 <| And.intro @rd26 <| And.intro @ln26 <| @lnn26
abbrev ta273 := And.intro @sz3 <| And.intro @zc3 <| And.intro @rd3 <| And.intro @sz5 <| And.intro @zc5 <| And.intro @rd5 <| And.intro @sz26 <| And.intro @zc26 <| And.intro @rd26 <| And.intro @ln26 <| @lnn26
abbrev ta61 := And.intro @sz3 <| And.intro @zc3 <| And.intro @rd3 <| And.intro @sz5 <| And.intro @zc5 <| And.intro @rd5 <| And.intro @sz26 <| And.intro @zc26 <| And.intro @rd26 <| And.intro @ln26 <| @lnn26
abbrev ta105 := And.intro @sz3 <| And.intro @zc3 <| And.intro @rd3 <| And.intro @sz5 <| And.intro @zc5 <| And.intro @rd5 <| And.intro @sz26 <| And.intro @zc26 <| And.intro @rd26 <| And.intro @ln26 <| @lnn26
abbrev ta219 := And.intro @sz5 <| And.intro @zc5 <| And.intro @rd5 <| And.intro @sz26 <| And.intro @zc26 <| And.intro @rd26 <| And.intro @ln26 <| @lnn26
abbrev ta189 := And.intro @sz3 <| And.intro @zc3 <| And.intro @rd3 <| And.intro @sz5 <| And.intro @zc5 <| And.intro @rd5 <| And.intro @sz26 <| And.intro @zc26 <| And.intro @rd26 <| And.intro @ln26 <| And.intro @lnn26 <| And.intro @sz27 <| And.intro @zc27 <| And.intro @rd27 <| And.intro @sz247 <| And.intro @zc247 <| @rd247
abbrev ta220 := And.intro @sz3 <| And.intro @zc3 <| And.intro @rd3 <| And.intro @sz5 <| And.intro @zc5 <| And.intro @rd5 <| And.intro @sz26 <| And.intro @zc26 <| And.intro @rd26 <| And.intro @ln26 <| And.intro @lnn26 <| And.intro @sz27 <| And.intro @zc27 <| @rd27
abbrev ta136 := And.intro @sz3 <| And.intro @zc3 <| And.intro @rd3 <| And.intro @sz5 <| And.intro @zc5 <| And.intro @rd5 <| And.intro @sz26 <| And.intro @zc26 <| And.intro @rd26 <| And.intro @ln26 <| And.intro @lnn26 <| And.intro @sz27 <| And.intro @zc27 <| And.intro @rd27 <| And.intro @sz247 <| And.intro @zc247 <| @rd247
abbrev ta88 := And.intro @sz3 <| And.intro @zc3 <| And.intro @rd3 <| And.intro @sz5 <| And.intro @zc5 <| And.intro @rd5 <| And.intro @sz26 <| And.intro @zc26 <| And.intro @rd26 <| And.intro @ln26 <| @lnn26
abbrev ta139 := And.intro @sz5 <| And.intro @zc5 <| And.intro @rd5 <| And.intro @sz26 <| And.intro @zc26 <| And.intro @rd26 <| And.intro @ln26 <| @lnn26
abbrev ta146 := And.intro @sz5 <| And.intro @zc5 <| And.intro @rd5 <| And.intro @sz26 <| And.intro @zc26 <| And.intro @rd26 <| And.intro @ln26 <| And.intro @lnn26 <| And.intro @sz27 <| And.intro @zc27 <| And.intro @rd27 <| And.intro @sz247 <| And.intro @zc247 <| @rd247
abbrev ta156 := And.intro @sz3 <| And.intro @zc3 <| And.intro @rd3 <| And.intro @sz32 <| And.intro @zc32 <| And.intro @rd32 <| And.intro @ln32 <| And.intro @lnn32 <| And.intro @sz203 <| And.intro @zc203 <| @rd203
def st88_4 (v0 v1 v6 : V) : List V := [v0, v1, .bad, .bad, .bad, .bad, v6, .bad, .bad, .bad, .bad, .bad, .bad, .bad, .bad, .bad, .bad, .bad, .bad, .bad, .bad, .bad, .bad, .bad, .bad, .bad, .bad, .bad, .bad, .bad, .bad, .bad, .bad]
def st105_1 (v0 v1 v2 v4 : V) : List V := [v0, v1, v2, .bad, v4, .bad, .bad, .bad, .bad, .bad, .bad, .bad, .bad, .bad, .bad, .bad, .bad, .bad, .bad, .bad, .bad, .bad, .bad, .bad, .bad, .bad, .bad, .bad, .bad, .bad, .bad]
def st126_3 (v1 v3 v19 v20 v21 : V) : List V := [.bad, v1, .bad, v3, .bad, .bad, .bad, .bad, .bad, .bad, .bad, .bad, .bad, .bad, .bad, .bad, .bad, .bad, .bad, v19, v20, v21, .bad, .bad, .bad, .bad, .bad, .bad, .bad, .bad, .bad, .bad, .bad, .bad, .bad, .bad, .bad, .bad, .bad, .bad, .bad, .bad, .bad, .bad, .bad, .bad, .bad, .bad, .bad, .bad, .bad, .bad, .bad]
def st126_8 (v3 v33 v34 v35 : V) : List V := [.bad, .bad, .bad, v3, .bad, .bad, .bad, .bad, .bad, .bad, .bad, .bad, .bad, .bad, .bad, .bad, .bad, .bad, .bad, .bad, .bad, .bad, .bad, .bad, .bad, .bad, .bad, .bad, .bad, .bad, .bad, .bad, .bad, v33, v34, v35, .bad, .bad, .bad, .bad, .bad, .bad, .bad, .bad, .bad, .bad, .bad, .bad, .bad, .bad, .bad, .bad, .bad]
def st136_3 (v3 v9 v10 : V) : List V := [.bad, .bad, .bad, v3, .bad, .bad, .bad, .bad, .bad, v9, v10, .bad, .bad, .bad, .bad, .bad, .bad, .bad, .bad, .bad, .bad, .bad, .bad, .bad]
def st141_3 (v1 v2 v3 v11 v12 v13 : V) : List V := [.bad, v1, v2, v3, .bad, .bad, .bad, .bad, .bad, .bad, .bad, v11, v12, v13, .bad, .bad, .bad, .bad, .bad, .bad, .bad, .bad, .bad, .bad, .bad, .bad, .bad, .bad, .bad, .bad, .bad, .bad, .bad, .bad, .bad, .bad, .bad, .bad, .bad, .bad, .bad, .bad, .bad, .bad, .bad, .bad, .bad, .bad, .bad, .bad, .bad, .bad, .bad, .bad, .bad, .bad, .bad, .bad, .bad, .bad, .bad]
def st141_9 (v1 v2 v27 v28 v29 : V) : List V := [.bad, v1, v2, .bad, .bad, .bad, .bad, .bad, .bad, .bad, .bad, .bad, .bad, .bad, .bad, .bad, .bad, .bad, .bad, .bad, .bad, .bad, .bad, .bad, .bad, .bad, .bad, v27, v28, v29, .bad, .bad, .bad, .bad, .bad, .bad, .bad, .bad, .bad, .bad, .bad, .bad, .bad, .bad, .bad, .bad, .bad, .bad, .bad, .bad, .bad, .bad, .bad, .bad, .bad, .bad, .bad, .bad, .bad, .bad, .bad]
def st141_14 (v2 v43 v44 v45 : V) : List V := [.bad, .bad, v2, .bad, .bad, .bad, .bad, .bad, .bad, .bad, .bad, .bad, .bad, .bad, .bad, .bad, .bad, .bad, .bad, .bad, .bad, .bad, .bad, .bad, .bad, .bad, .bad, .bad, .bad, .bad, .bad, .bad, .bad, .bad, .bad, .bad, .bad, .bad, .bad, .bad, .bad, .bad, .bad, v43, v44, v45, .bad, .bad, .bad, .bad, .bad, .bad, .bad, .bad, .bad, .bad, .bad, .bad, .bad, .bad, .bad]
def st155_3 (v0 v2 v3 v9 v10 v11 : V) : List V := [v0, .bad, v2, v3, .bad, .bad, .bad, .bad, .bad, v9, v10, v11, .bad, .bad, .bad, .bad, .bad, .bad, .bad, .bad, .bad, .bad, .bad, .bad, .bad, .bad, .bad, .bad, .bad, .bad, .bad, .bad, .bad, .bad, .bad, .bad, .bad, .bad]
def st155_9 (v2 v6 v21 v22 v23 : V) : List V := [.bad, .bad, v2, .bad, .bad, .bad, v6, .bad, .bad, .bad, .bad, .bad, .bad, .bad, .bad, .bad, .bad, .bad, .bad, .bad, .bad, v21, v22, v23, .bad, .bad, .bad, .bad, .bad, .bad, .bad, .bad, .bad, .bad, .bad, .bad, .bad, .bad]
def st156_8 (v7 v8 : V) : List V := [.bad, .bad, .bad, .bad, .bad, .bad, .bad, v7, v8, .bad, .bad, .bad, .bad, .bad, .bad, .bad, .bad, .bad, .bad, .bad, .bad, .bad, .bad, .bad, .bad, .bad, .bad, .bad, .bad, .bad, .bad, .bad, .bad, .bad, .bad, .bad, .bad, .bad, .bad, .bad, .bad, .bad, .bad, .bad, .bad, .bad, .bad, .bad]
def st177_3 (v2 v4 v16 : V) : List V := [.bad, .bad, v2, .bad, v4, .bad, .bad, .bad, .bad, .bad, .bad, .bad, .bad, .bad, .bad, .bad, v16, .bad, .bad, .bad, .bad, .bad, .bad, .bad, .bad, .bad, .bad, .bad, .bad, .bad, .bad]
def st185_5 (v0 v3 v4 : V) : List V := [v0, .bad, .bad, v3, v4, .bad, .bad, .bad, .bad, .bad, .bad, .bad, .bad, .bad, .bad, .bad, .bad, .bad, .bad, .bad, .bad, .bad, .bad, .bad, .bad]
def st189_3 (v0 v2 v3 v4 : V) : List V := [v0, .bad, v2, v3, v4, .bad, .bad, .bad, .bad, .bad, .bad, .bad, .bad, .bad, .bad, .bad, .bad, .bad, .bad, .bad, .bad, .bad, .bad, .bad, .bad, .bad, .bad, .bad, .bad, .bad, .bad, .bad, .bad, .bad, .bad, .bad, .bad, .bad, .bad, .bad, .bad, .bad, .bad, .bad, .bad, .bad, .bad]
def st212_3 (v1 v5 v10 v11 v12 : V) : List V := [.bad, v1, .bad, .bad, .bad, v5, .bad, .bad, .bad, .bad, v10, v11, v12, .bad, .bad, .bad, .bad, .bad, .bad, .bad, .bad, .bad, .bad, .bad, .bad, .bad]
def st221_2 (v2 v4 v5 v6 : V) : List V := [.bad, .bad, v2, .bad, v4, v5, v6, .bad, .bad, .bad, .bad, .bad]
def st273_1 (v0 v1 v3 : V) : List V := [v0, v1, .bad, v3, .bad, .bad, .bad, .bad, .bad, .bad, .bad, .bad, .bad, .bad, .bad, .bad, .bad, .bad, .bad]
end Go.Proofs.YtafhcdagifopeaaGreatDoor
end
