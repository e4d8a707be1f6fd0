/- This file holds in one the texts D00, D0, DF; each says at its head what it proves. -/
import Derived.Test.YtafhcdagifopeaaGreatDoorT13
import Derived.Test.YtafhcdagifopeaaGreatDoorT27
import Derived.Test.YtafhcdagifopeaaGreatDoorChecked
set_option linter.unusedSimpArgs false
set_option linter.unusedVariables false
namespace Go.Proofs.YtafhcdagifopeaaGreatDoor
section
open Go.AM
theorem Qt5 {α : Type} (g : α -> Bool) (l : List α) (c : Nat) : ∀ k : Nat, (∀ i, i < k -> ((l.drop (c * i)).take c).all g = true) -> (l.drop (c * k)).all g = true -> l.all g = true
 | 0, _, h => by simpa using h
 | k + 1, h1, h2 => by
   refine Qt5 g l c k (fun i hi => h1 i (by omega)) ?_
   have e : l.drop (c * k) = (l.drop (c * k)).take c ++ l.drop (c * (k + 1)) := by
    have := (Zjv c (l.drop (c * k))).symm
    rw [Zjy] at this
    rw [Nat.mul_succ]; exact this
   rw [e, List.all_append, h1 k (by omega), h2]; rfl
def gD (F : Func) : Bool := match F.body with | some c => drawsC c | none => true
def gN (F : Func) : Bool := F.body.isNone || !(F.name == "runtime.NumGoroutine")
def gL (F : Func) : Bool := match F.body with | some c => decide ((Q6 c).Nodup) && flatC c | none => true
theorem dr0 : ((Tryz.prog.funcs.toList.drop (40 * 0)).take 40).all gD = true := by kernel_rfl
theorem dr1 : ((Tryz.prog.funcs.toList.drop (40 * 1)).take 40).all gD = true := by kernel_rfl
theorem dr2 : ((Tryz.prog.funcs.toList.drop (40 * 2)).take 40).all gD = true := by kernel_rfl
theorem dr3 : ((Tryz.prog.funcs.toList.drop (40 * 3)).take 40).all gD = true := by kernel_rfl
theorem dr4 : ((Tryz.prog.funcs.toList.drop (40 * 4)).take 40).all gD = true := by kernel_rfl
theorem dr5 : ((Tryz.prog.funcs.toList.drop (40 * 5)).take 40).all gD = true := by kernel_rfl
theorem dr6 : ((Tryz.prog.funcs.toList.drop (40 * 6)).take 40).all gD = true := by kernel_rfl
theorem dr7 : ((Tryz.prog.funcs.toList.drop (40 * 7)).take 40).all gD = true := by kernel_rfl
theorem drE : (Tryz.prog.funcs.toList.drop (40 * 8)).all gD = true := by kernel_rfl
theorem Q0v : Tryz.prog.funcs.all gD = true := by
 rw [<- Array.all_toList]
 refine Qt5 gD _ 40 8 ?_ drE
 intro i hi
 match i, hi with
 | 0, _ => exact dr0
 | 1, _ => exact dr1
 | 2, _ => exact dr2
 | 3, _ => exact dr3
 | 4, _ => exact dr4
 | 5, _ => exact dr5
 | 6, _ => exact dr6
 | 7, _ => exact dr7
 | n + 8, h => omega
theorem Q7j : Tryz.prog.funcs.all gN = true := by kernel_rfl
theorem Q0g : Tryz.prog.funcs.all gL = true := by kernel_rfl
end
section
open Go.AM
def inlD : List Nat := [155, 141, 212, 177, 96, 271, 85, 97, 86, 131, 50, 130, 62]
def Qz : Pol where
 pure := fun _ g => !inlD.contains g
 mt := fun f s => [(155, 32), (53, 5), (53, 7), (96, 5), (96, 7)].contains (f, s)
 keep := fun f r => match f, r with
  | 126, 3 => some ([1, 3, 19, 20, 21], [])
  | 126, 8 => some ([3, 33, 34, 35], [7])
  | 141, 3 => some ([1, 2, 3, 11, 12, 13], [])
  | 141, 9 => some ([1, 2, 27, 28, 29], [])
  | 141, 14 => some ([2, 43, 44, 45], [9])
  | 177, 3 => some ([2, 4, 16], [6])
  | 155, 3 => some ([0, 2, 3, 9, 10, 11], [])
  | 155, 9 => some ([2, 6, 21, 22, 23], [32])
  | 156, 8 => some ([7, 8], [])
  | 212, 3 => some ([1, 5, 10, 11, 12], [7])
  | 185, 5 => some ([0, 3, 4], [])
  | 221, 2 => some ([2, 4, 5, 6], [])
  | 189, 3 => some ([0, 2, 3, 4], [])
  | 105, 1 => some ([0, 1, 2, 4], [])
  | 273, 1 => some ([0, 1, 3], [])
  | 88, 4 => some ([0, 1, 6], [])
  | 136, 3 => some ([3, 9, 10], [])
  | 48, 4 => some ([1, 34, 35, 36], [])
  | 48, 12 => some ([1, 108, 109, 110], [6])
  | 50, 2 => some ([0, 1, 7, 8], [])
  | 97, 2 => some ([0, 1, 7, 8], [])
  | 80, 4 => some ([0, 10, 11, 12], [4])
  | 80, 10 => some ([0, 51, 52, 53], [4, 6])
  | 100, 3 => some ([0, 2, 4, 8, 9, 10], [])
  | 132, 3 => some ([0, 1, 2, 8, 9, 10], [])
  | 128, 4 => some ([0, 8, 9, 10], [4])
  | 135, 3 => some ([3, 6, 7, 8], [])
  | _, _ => none
 thin := fun _ g => g == 155
 lift := fun _ g => g == 96
 look := fun _ g => g == 62
 prim := fun f => if f = 217 then some Y8 else none
theorem xCnt : Kb Tryz.prog 217 Extern.BytealgCount.count := ⟨Tryz.f217, Tryz.func217, by kernel_rfl, by kernel_rfl, by kernel_rfl, by kernel_rfl⟩
theorem okD : Okay Tryz.prog Qz where
 mixed := Tryz.checked.mixed
 draws := fun f F c hF hc => by
  have := Zkp.1 Q0v F (Array.mem_of_getElem? hF)
  unfold gD at this
  rwa [hc] at this
 loops := fun f F c hF hc => by
  have := Zkp.1 Q0g F (Array.mem_of_getElem? hF)
  unfold gL at this
  rw [hc] at this
  simpa using this
 num := fun f F hF hb => by
  have := Zkp.1 Q7j F (Array.mem_of_getElem? hF)
  unfold gN at this
  cases hn : F.body with
  | none => rw [hn] at hb; cases hb
  | some c => rw [hn] at this; simpa using this
 prim := fun f g hg B F H E fr dst args cargs v x S hlt hr h => by
  by_cases hf : f = 217
  . subst hf
    have e : Qz.prim 217 = some Y8 := rfl
    rw [e] at hg
    cases hg
    exact sound_count xCnt S hr h
  . have e : Qz.prim f = none := if_neg hf
    rw [e] at hg
    cases hg
end
section
open Go.AM
theorem sz3 : sz Tryz.prog 3 = some 1 := by kernel_rfl
theorem zc3 : zeroCells Tryz.prog 3 = some [.int .i64 0] := by kernel_rfl
theorem rd3 (cs : List V) (o : Nat) : Q2 Tryz.prog 3 cs o = cs[o]? := Xw Tryz.underlying3 sz3 rfl cs o
theorem sz4 : sz Tryz.prog 4 = some 1 := by kernel_rfl
theorem zc4 : zeroCells Tryz.prog 4 = some [.bool false] := by kernel_rfl
theorem rd4 (cs : List V) (o : Nat) : Q2 Tryz.prog 4 cs o = cs[o]? := Xw Tryz.underlying4 sz4 rfl cs o
theorem sz5 : sz Tryz.prog 5 = some 1 := by kernel_rfl
theorem zc5 : zeroCells Tryz.prog 5 = some [.int .u8 0] := by kernel_rfl
theorem rd5 (cs : List V) (o : Nat) : Q2 Tryz.prog 5 cs o = cs[o]? := Xw Tryz.underlying5 sz5 rfl cs o
theorem sz9 : sz Tryz.prog 9 = some 1 := by kernel_rfl
theorem zc9 : zeroCells Tryz.prog 9 = some [.str []] := by kernel_rfl
theorem rd9 (cs : List V) (o : Nat) : Q2 Tryz.prog 9 cs o = cs[o]? := Xw Tryz.underlying9 sz9 rfl cs o
theorem ln9 (g : Get) (s : List UInt8) : Y2 Tryz.prog g 9 (.str s) = some (.int .i64 s.length) := ln_str Tryz.underlying9 s
theorem sz22 : sz Tryz.prog 22 = some 1 := by kernel_rfl
theorem zc22 : zeroCells Tryz.prog 22 = some [.nS] := by kernel_rfl
theorem rd22 (cs : List V) (o : Nat) : Q2 Tryz.prog 22 cs o = cs[o]? := Xw Tryz.underlying22 sz22 rfl cs o
theorem ln22 (g : Get) (cs : List V) (len : Nat) (full : Bool) : Y2 Tryz.prog g 22 (.iS cs len full) = some (.int .i64 len) := Bk Tryz.underlying22 cs len full
theorem lnn22 (g : Get) : Y2 Tryz.prog g 22 .nS = some (.int .i64 0) := Qd4 Tryz.underlying22
theorem sz23 : sz Tryz.prog 23 = some 1 := by kernel_rfl
theorem zc23 : zeroCells Tryz.prog 23 = some [.nS] := by kernel_rfl
theorem rd23 (cs : List V) (o : Nat) : Q2 Tryz.prog 23 cs o = cs[o]? := Xw Tryz.underlying23 sz23 rfl cs o
theorem ln23 (g : Get) (cs : List V) (len : Nat) (full : Bool) : Y2 Tryz.prog g 23 (.iS cs len full) = some (.int .i64 len) := Bk Tryz.underlying23 cs len full
theorem lnn23 (g : Get) : Y2 Tryz.prog g 23 .nS = some (.int .i64 0) := Qd4 Tryz.underlying23
theorem sz25 : sz Tryz.prog 25 = some 2 := by kernel_rfl
theorem zc25 : zeroCells Tryz.prog 25 = some [.nS, .nS] := by kernel_rfl
theorem rd25 (cs : List V) (o : Nat) : Q2 Tryz.prog 25 cs o = if o + 2 <= cs.length then some (.agg ((cs.drop o).take 2)) else none := Qir Tryz.underlying25 sz25 rfl cs o
theorem fo25_0 : Ym Tryz.prog 25 0 = some (0, 22) := by kernel_rfl
theorem ff25_0 : Yn Tryz.prog 25 0 = some (0, 22) := by kernel_rfl
theorem fo25_1 : Ym Tryz.prog 25 1 = some (1, 23) := by kernel_rfl
theorem ff25_1 : Yn Tryz.prog 25 1 = some (1, 23) := by kernel_rfl
theorem bv25 (parts : List (Nat × V)) : Xp Tryz.prog 25 parts = (Qo (fun i => ([(0, 1), (1, 1)] : List (Nat × Nat))[i]?) [.nS, .nS] parts).map .agg := Qkj zc25 (by kernel_rfl) parts
theorem Qi1 : sz Tryz.prog 26 = some 1 := by kernel_rfl
theorem zc26 : zeroCells Tryz.prog 26 = some [.nS] := by kernel_rfl
theorem rd26 (cs : List V) (o : Nat) : Q2 Tryz.prog 26 cs o = cs[o]? := Xw Tryz.underlying26 Qi1 rfl cs o
theorem ln26 (g : Get) (cs : List V) (len : Nat) (full : Bool) : Y2 Tryz.prog g 26 (.iS cs len full) = some (.int .i64 len) := Bk Tryz.underlying26 cs len full
theorem lnn26 (g : Get) : Y2 Tryz.prog g 26 .nS = some (.int .i64 0) := Qd4 Tryz.underlying26
theorem Qr3 : sz Tryz.prog 27 = some 1 := by kernel_rfl
theorem zc27 : zeroCells Tryz.prog 27 = some [.int .u32 0] := by kernel_rfl
theorem rd27 (cs : List V) (o : Nat) : Q2 Tryz.prog 27 cs o = cs[o]? := Xw Tryz.underlying27 Qr3 rfl cs o
theorem sz29 : sz Tryz.prog 29 = some 5 := by kernel_rfl
theorem zc29 : zeroCells Tryz.prog 29 = some [.nS, .nS, .nS, .int .u32 0, .int .u32 0] := by kernel_rfl
theorem rd29 (cs : List V) (o : Nat) : Q2 Tryz.prog 29 cs o = if o + 5 <= cs.length then some (.agg ((cs.drop o).take 5)) else none := Qir Tryz.underlying29 sz29 rfl cs o
theorem fo29_0 : Ym Tryz.prog 29 0 = some (0, 25) := by kernel_rfl
theorem ff29_0 : Yn Tryz.prog 29 0 = some (0, 25) := by kernel_rfl
theorem fo29_1 : Ym Tryz.prog 29 1 = some (2, 26) := by kernel_rfl
theorem ff29_1 : Yn Tryz.prog 29 1 = some (2, 26) := by kernel_rfl
theorem fo29_2 : Ym Tryz.prog 29 2 = some (3, 27) := by kernel_rfl
theorem ff29_2 : Yn Tryz.prog 29 2 = some (3, 27) := by kernel_rfl
theorem fo29_3 : Ym Tryz.prog 29 3 = some (4, 27) := by kernel_rfl
theorem ff29_3 : Yn Tryz.prog 29 3 = some (4, 27) := by kernel_rfl
theorem bv29 (parts : List (Nat × V)) : Xp Tryz.prog 29 parts = (Qo (fun i => ([(0, 2), (2, 1), (3, 1), (4, 1)] : List (Nat × Nat))[i]?) [.nS, .nS, .nS, .int .u32 0, .int .u32 0] parts).map .agg := Qkj zc29 (by kernel_rfl) parts
theorem sz31 : sz Tryz.prog 31 = some 5 := by kernel_rfl
theorem zc31 : zeroCells Tryz.prog 31 = some [.int .i64 0, .int .u32 0, .int .u32 0, .int .u32 0, .int .u32 0] := by kernel_rfl
theorem rd31 (cs : List V) (o : Nat) : Q2 Tryz.prog 31 cs o = if o + 5 <= cs.length then some (.agg ((cs.drop o).take 5)) else none := Qir Tryz.underlying31 sz31 rfl cs o
theorem fo31_0 : Ym Tryz.prog 31 0 = some (0, 3) := by kernel_rfl
theorem ff31_0 : Yn Tryz.prog 31 0 = some (0, 3) := by kernel_rfl
theorem fo31_1 : Ym Tryz.prog 31 1 = some (1, 27) := by kernel_rfl
theorem ff31_1 : Yn Tryz.prog 31 1 = some (1, 27) := by kernel_rfl
theorem fo31_2 : Ym Tryz.prog 31 2 = some (2, 27) := by kernel_rfl
theorem ff31_2 : Yn Tryz.prog 31 2 = some (2, 27) := by kernel_rfl
theorem fo31_3 : Ym Tryz.prog 31 3 = some (3, 27) := by kernel_rfl
theorem ff31_3 : Yn Tryz.prog 31 3 = some (3, 27) := by kernel_rfl
theorem fo31_4 : Ym Tryz.prog 31 4 = some (4, 27) := by kernel_rfl
theorem ff31_4 : Yn Tryz.prog 31 4 = some (4, 27) := by kernel_rfl
theorem bv31 (parts : List (Nat × V)) : Xp Tryz.prog 31 parts = (Qo (fun i => ([(0, 1), (1, 1), (2, 1), (3, 1), (4, 1)] : List (Nat × Nat))[i]?) [.int .i64 0, .int .u32 0, .int .u32 0, .int .u32 0, .int .u32 0] parts).map .agg := Qkj zc31 (by kernel_rfl) parts
theorem sz32 : sz Tryz.prog 32 = some 1 := by kernel_rfl
theorem zc32 : zeroCells Tryz.prog 32 = some [.nS] := by kernel_rfl
theorem rd32 (cs : List V) (o : Nat) : Q2 Tryz.prog 32 cs o = cs[o]? := Xw Tryz.underlying32 sz32 rfl cs o
theorem ln32 (g : Get) (cs : List V) (len : Nat) (full : Bool) : Y2 Tryz.prog g 32 (.iS cs len full) = some (.int .i64 len) := Bk Tryz.underlying32 cs len full
theorem lnn32 (g : Get) : Y2 Tryz.prog g 32 .nS = some (.int .i64 0) := Qd4 Tryz.underlying32
theorem sz33 : sz Tryz.prog 33 = some 1 := by kernel_rfl
theorem zc33 : zeroCells Tryz.prog 33 = some [.nS] := by kernel_rfl
theorem Qoi (cs : List V) (o : Nat) : Q2 Tryz.prog 33 cs o = cs[o]? := Xw Tryz.underlying33 sz33 rfl cs o
theorem ln33 (g : Get) (cs : List V) (len : Nat) (full : Bool) : Y2 Tryz.prog g 33 (.iS cs len full) = some (.int .i64 len) := Bk Tryz.underlying33 cs len full
theorem lnn33 (g : Get) : Y2 Tryz.prog g 33 .nS = some (.int .i64 0) := Qd4 Tryz.underlying33
theorem sz34 : sz Tryz.prog 34 = some 1 := by kernel_rfl
theorem zc34 : zeroCells Tryz.prog 34 = some [.nS] := by kernel_rfl
theorem Qvk (cs : List V) (o : Nat) : Q2 Tryz.prog 34 cs o = cs[o]? := Xw Tryz.underlying34 sz34 rfl cs o
theorem ln34 (g : Get) (cs : List V) (len : Nat) (full : Bool) : Y2 Tryz.prog g 34 (.iS cs len full) = some (.int .i64 len) := Bk Tryz.underlying34 cs len full
theorem lnn34 (g : Get) : Y2 Tryz.prog g 34 .nS = some (.int .i64 0) := Qd4 Tryz.underlying34
theorem sz36 : sz Tryz.prog 36 = some 19 := by kernel_rfl
theorem zc36 : zeroCells Tryz.prog 36 = some [.nS, .nS, .nS, .int .u32 0, .int .u32 0, .int .u32 0, .int .i64 0, .int .u32 0, .int .u32 0, .int .u32 0, .int .u32 0, .nS, .nS, .nS, .nS, .nS, .int .i64 0, .int .i64 0, .int .u32 0] := by kernel_rfl
theorem rd36 (cs : List V) (o : Nat) : Q2 Tryz.prog 36 cs o = if o + 19 <= cs.length then some (.agg ((cs.drop o).take 19)) else none := Qir Tryz.underlying36 sz36 rfl cs o
theorem fo36_0 : Ym Tryz.prog 36 0 = some (0, 29) := by kernel_rfl
theorem ff36_0 : Yn Tryz.prog 36 0 = some (0, 29) := by kernel_rfl
theorem fo36_1 : Ym Tryz.prog 36 1 = some (5, 27) := by kernel_rfl
theorem ff36_1 : Yn Tryz.prog 36 1 = some (5, 27) := by kernel_rfl
theorem fo36_2 : Ym Tryz.prog 36 2 = some (6, 31) := by kernel_rfl
theorem ff36_2 : Yn Tryz.prog 36 2 = some (6, 31) := by kernel_rfl
theorem fo36_3 : Ym Tryz.prog 36 3 = some (11, 32) := by kernel_rfl
theorem ff36_3 : Yn Tryz.prog 36 3 = some (11, 32) := by kernel_rfl
theorem fo36_4 : Ym Tryz.prog 36 4 = some (12, 33) := by kernel_rfl
theorem ff36_4 : Yn Tryz.prog 36 4 = some (12, 33) := by kernel_rfl
theorem fo36_5 : Ym Tryz.prog 36 5 = some (13, 22) := by kernel_rfl
theorem ff36_5 : Yn Tryz.prog 36 5 = some (13, 22) := by kernel_rfl
theorem fo36_6 : Ym Tryz.prog 36 6 = some (14, 22) := by kernel_rfl
theorem ff36_6 : Yn Tryz.prog 36 6 = some (14, 22) := by kernel_rfl
theorem fo36_7 : Ym Tryz.prog 36 7 = some (15, 34) := by kernel_rfl
theorem ff36_7 : Yn Tryz.prog 36 7 = some (15, 34) := by kernel_rfl
theorem fo36_8 : Ym Tryz.prog 36 8 = some (16, 3) := by kernel_rfl
theorem ff36_8 : Yn Tryz.prog 36 8 = some (16, 3) := by kernel_rfl
theorem fo36_9 : Ym Tryz.prog 36 9 = some (17, 3) := by kernel_rfl
theorem ff36_9 : Yn Tryz.prog 36 9 = some (17, 3) := by kernel_rfl
theorem Q6w : Ym Tryz.prog 36 10 = some (18, 27) := by kernel_rfl
theorem Q6h : Yn Tryz.prog 36 10 = some (18, 27) := by kernel_rfl
theorem bv36 (parts : List (Nat × V)) : Xp Tryz.prog 36 parts = (Qo (fun i => ([(0, 5), (5, 1), (6, 5), (11, 1), (12, 1), (13, 1), (14, 1), (15, 1), (16, 1), (17, 1), (18, 1)] : List (Nat × Nat))[i]?) [.nS, .nS, .nS, .int .u32 0, .int .u32 0, .int .u32 0, .int .i64 0, .int .u32 0, .int .u32 0, .int .u32 0, .int .u32 0, .nS, .nS, .nS, .nS, .nS, .int .i64 0, .int .i64 0, .int .u32 0] parts).map .agg := Qkj zc36 (by kernel_rfl) parts
theorem sz40 : sz Tryz.prog 40 = some 1 := by kernel_rfl
theorem zc40 : zeroCells Tryz.prog 40 = some [.int .i64 0] := by kernel_rfl
theorem rd40 (cs : List V) (o : Nat) : Q2 Tryz.prog 40 cs o = cs[o]? := Xw Tryz.underlying40 sz40 rfl cs o
theorem sz60 : sz Tryz.prog 60 = some 1 := by kernel_rfl
theorem zc60 : zeroCells Tryz.prog 60 = some [.nS] := by kernel_rfl
theorem rd60 (cs : List V) (o : Nat) : Q2 Tryz.prog 60 cs o = cs[o]? := Xw Tryz.underlying60 sz60 rfl cs o
theorem ln60 (g : Get) (cs : List V) (len : Nat) (full : Bool) : Y2 Tryz.prog g 60 (.iS cs len full) = some (.int .i64 len) := Bk Tryz.underlying60 cs len full
theorem lnn60 (g : Get) : Y2 Tryz.prog g 60 .nS = some (.int .i64 0) := Qd4 Tryz.underlying60
theorem Qri : sz Tryz.prog 62 = some 13 := by kernel_rfl
theorem zc62 : zeroCells Tryz.prog 62 = some [.int .i64 0, .int .u8 0, .int .i64 0, .int .i64 0, .int .u32 0, .int .u32 0, .int .i64 0, .int .i64 0, .int .u32 0, .int .u32 0, .int .u32 0, .int .u32 0, .nS] := by kernel_rfl
theorem rd62 (cs : List V) (o : Nat) : Q2 Tryz.prog 62 cs o = if o + 13 <= cs.length then some (.agg ((cs.drop o).take 13)) else none := Qir Tryz.underlying62 Qri rfl cs o
theorem fo62_0 : Ym Tryz.prog 62 0 = some (0, 3) := by kernel_rfl
theorem ff62_0 : Yn Tryz.prog 62 0 = some (0, 3) := by kernel_rfl
theorem fo62_1 : Ym Tryz.prog 62 1 = some (1, 5) := by kernel_rfl
theorem ff62_1 : Yn Tryz.prog 62 1 = some (1, 5) := by kernel_rfl
theorem fo62_2 : Ym Tryz.prog 62 2 = some (2, 3) := by kernel_rfl
theorem ff62_2 : Yn Tryz.prog 62 2 = some (2, 3) := by kernel_rfl
theorem fo62_3 : Ym Tryz.prog 62 3 = some (3, 3) := by kernel_rfl
theorem ff62_3 : Yn Tryz.prog 62 3 = some (3, 3) := by kernel_rfl
theorem fo62_4 : Ym Tryz.prog 62 4 = some (4, 27) := by kernel_rfl
theorem ff62_4 : Yn Tryz.prog 62 4 = some (4, 27) := by kernel_rfl
theorem fo62_5 : Ym Tryz.prog 62 5 = some (5, 27) := by kernel_rfl
theorem ff62_5 : Yn Tryz.prog 62 5 = some (5, 27) := by kernel_rfl
theorem fo62_6 : Ym Tryz.prog 62 6 = some (6, 3) := by kernel_rfl
theorem ff62_6 : Yn Tryz.prog 62 6 = some (6, 3) := by kernel_rfl
theorem fo62_7 : Ym Tryz.prog 62 7 = some (7, 31) := by kernel_rfl
theorem ff62_7 : Yn Tryz.prog 62 7 = some (7, 31) := by kernel_rfl
theorem fo62_8 : Ym Tryz.prog 62 8 = some (12, 60) := by kernel_rfl
theorem ff62_8 : Yn Tryz.prog 62 8 = some (12, 60) := by kernel_rfl
theorem bv62 (parts : List (Nat × V)) : Xp Tryz.prog 62 parts = (Qo (fun i => ([(0, 1), (1, 1), (2, 1), (3, 1), (4, 1), (5, 1), (6, 1), (7, 5), (12, 1)] : List (Nat × Nat))[i]?) [.int .i64 0, .int .u8 0, .int .i64 0, .int .i64 0, .int .u32 0, .int .u32 0, .int .i64 0, .int .i64 0, .int .u32 0, .int .u32 0, .int .u32 0, .int .u32 0, .nS] parts).map .agg := Qkj zc62 (by kernel_rfl) parts
theorem sz86 : sz Tryz.prog 86 = some 1 := by kernel_rfl
theorem zc86 : zeroCells Tryz.prog 86 = some [.nF] := by kernel_rfl
theorem rd86 (cs : List V) (o : Nat) : Q2 Tryz.prog 86 cs o = cs[o]? := Xw Tryz.underlying86 sz86 rfl cs o
theorem sz101 : sz Tryz.prog 101 = some 1 := by kernel_rfl
theorem zc101 : zeroCells Tryz.prog 101 = some [.nF] := by kernel_rfl
theorem rd101 (cs : List V) (o : Nat) : Q2 Tryz.prog 101 cs o = cs[o]? := Xw Tryz.underlying101 sz101 rfl cs o
theorem Qpj : sz Tryz.prog 107 = some 12 := by kernel_rfl
theorem zc107 : zeroCells Tryz.prog 107 = some [.int .i64 0, .int .i64 0, .int .i64 0, .int .u8 0, .int .i64 0, .int .i64 0, .nS, .int .i64 0, .int .u32 0, .int .u32 0, .int .u32 0, .int .u32 0] := by kernel_rfl
theorem rd107 (cs : List V) (o : Nat) : Q2 Tryz.prog 107 cs o = if o + 12 <= cs.length then some (.agg ((cs.drop o).take 12)) else none := Qir Tryz.underlying107 Qpj rfl cs o
theorem Q7m : Ym Tryz.prog 107 0 = some (0, 3) := by kernel_rfl
theorem Q68 : Yn Tryz.prog 107 0 = some (0, 3) := by kernel_rfl
theorem Q69 : Ym Tryz.prog 107 1 = some (1, 3) := by kernel_rfl
theorem Q8a : Yn Tryz.prog 107 1 = some (1, 3) := by kernel_rfl
theorem Q5v : Ym Tryz.prog 107 2 = some (2, 3) := by kernel_rfl
theorem Q6k : Yn Tryz.prog 107 2 = some (2, 3) := by kernel_rfl
theorem Q8k : Ym Tryz.prog 107 3 = some (3, 5) := by kernel_rfl
theorem Q7w : Yn Tryz.prog 107 3 = some (3, 5) := by kernel_rfl
theorem Q60 : Ym Tryz.prog 107 4 = some (4, 3) := by kernel_rfl
theorem Q6j : Yn Tryz.prog 107 4 = some (4, 3) := by kernel_rfl
theorem Q7b : Ym Tryz.prog 107 5 = some (5, 3) := by kernel_rfl
theorem Q8h : Yn Tryz.prog 107 5 = some (5, 3) := by kernel_rfl
theorem Q73 : Ym Tryz.prog 107 6 = some (6, 26) := by kernel_rfl
theorem Q6q : Yn Tryz.prog 107 6 = some (6, 26) := by kernel_rfl
theorem Q6s : Ym Tryz.prog 107 7 = some (7, 31) := by kernel_rfl
theorem Q7v : Yn Tryz.prog 107 7 = some (7, 31) := by kernel_rfl
theorem bv107 (parts : List (Nat × V)) : Xp Tryz.prog 107 parts = (Qo (fun i => ([(0, 1), (1, 1), (2, 1), (3, 1), (4, 1), (5, 1), (6, 1), (7, 5)] : List (Nat × Nat))[i]?) [.int .i64 0, .int .i64 0, .int .i64 0, .int .u8 0, .int .i64 0, .int .i64 0, .nS, .int .i64 0, .int .u32 0, .int .u32 0, .int .u32 0, .int .u32 0] parts).map .agg := Qkj zc107 (by kernel_rfl) parts
theorem sz113 : sz Tryz.prog 113 = some 3 := by kernel_rfl
theorem zc113 : zeroCells Tryz.prog 113 = some [.int .i64 0, .int .i64 0, .int .i64 0] := by kernel_rfl
theorem rd113 (cs : List V) (o : Nat) : Q2 Tryz.prog 113 cs o = if o + 3 <= cs.length then some (.agg ((cs.drop o).take 3)) else none := Qir Tryz.underlying113 sz113 rfl cs o
theorem Q5i : Ym Tryz.prog 113 0 = some (0, 3) := by kernel_rfl
theorem Q5x : Yn Tryz.prog 113 0 = some (0, 3) := by kernel_rfl
theorem Q8e : Ym Tryz.prog 113 1 = some (1, 3) := by kernel_rfl
theorem Q8m : Yn Tryz.prog 113 1 = some (1, 3) := by kernel_rfl
theorem Q5l : Ym Tryz.prog 113 2 = some (2, 3) := by kernel_rfl
theorem Q7z : Yn Tryz.prog 113 2 = some (2, 3) := by kernel_rfl
theorem bv113 (parts : List (Nat × V)) : Xp Tryz.prog 113 parts = (Qo (fun i => ([(0, 1), (1, 1), (2, 1)] : List (Nat × Nat))[i]?) [.int .i64 0, .int .i64 0, .int .i64 0] parts).map .agg := Qkj zc113 (by kernel_rfl) parts
theorem sz142 : sz Tryz.prog 142 = some 1 := by kernel_rfl
theorem zc142 : zeroCells Tryz.prog 142 = some [.nP] := by kernel_rfl
theorem rd142 (cs : List V) (o : Nat) : Q2 Tryz.prog 142 cs o = cs[o]? := Xw Tryz.underlying142 sz142 rfl cs o
theorem sz147 : sz Tryz.prog 147 = some 1 := by kernel_rfl
theorem zc147 : zeroCells Tryz.prog 147 = some [.nF] := by kernel_rfl
theorem rd147 (cs : List V) (o : Nat) : Q2 Tryz.prog 147 cs o = cs[o]? := Xw Tryz.underlying147 sz147 rfl cs o
theorem sz196 : sz Tryz.prog 196 = some 1 := by kernel_rfl
theorem zc196 : zeroCells Tryz.prog 196 = some [.nF] := by kernel_rfl
theorem rd196 (cs : List V) (o : Nat) : Q2 Tryz.prog 196 cs o = cs[o]? := Xw Tryz.underlying196 sz196 rfl cs o
theorem sz203 : sz Tryz.prog 203 = some 1 := by kernel_rfl
theorem zc203 : zeroCells Tryz.prog 203 = some [.int .u64 0] := by kernel_rfl
theorem rd203 (cs : List V) (o : Nat) : Q2 Tryz.prog 203 cs o = cs[o]? := Xw Tryz.underlying203 sz203 rfl cs o
theorem Qma : sz Tryz.prog 242 = some 2 := by kernel_rfl
theorem Qyk : zeroCells Tryz.prog 242 = some [.int .i64 0, .nS] := by kernel_rfl
theorem Q4t (cs : List V) (o : Nat) : Q2 Tryz.prog 242 cs o = if o + 2 <= cs.length then some (.agg ((cs.drop o).take 2)) else none := Qir Tryz.underlying242 Qma rfl cs o
theorem Q76 : Ym Tryz.prog 242 0 = some (0, 3) := by kernel_rfl
theorem Q5p : Yn Tryz.prog 242 0 = some (0, 3) := by kernel_rfl
theorem Q7u : Ym Tryz.prog 242 1 = some (1, 26) := by kernel_rfl
theorem Q6y : Yn Tryz.prog 242 1 = some (1, 26) := by kernel_rfl
theorem bv242 (parts : List (Nat × V)) : Xp Tryz.prog 242 parts = (Qo (fun i => ([(0, 1), (1, 1)] : List (Nat × Nat))[i]?) [.int .i64 0, .nS] parts).map .agg := Qkj Qyk (by kernel_rfl) parts
theorem sz247 : sz Tryz.prog 247 = some 4 := by kernel_rfl
theorem zc247 : zeroCells Tryz.prog 247 = some [.int .u32 0, .int .u32 0, .int .u32 0, .int .u32 0] := by kernel_rfl
theorem rd247 (cs : List V) (o : Nat) : Q2 Tryz.prog 247 cs o = if o + 4 <= cs.length then some (.agg ((cs.drop o).take 4)) else none := Qir Tryz.underlying247 sz247 rfl cs o
theorem sz271 : sz Tryz.prog 271 = some 1 := by kernel_rfl
theorem zc271 : zeroCells Tryz.prog 271 = some [.nM] := by kernel_rfl
theorem rd271 (cs : List V) (o : Nat) : Q2 Tryz.prog 271 cs o = cs[o]? := Xw Tryz.underlying271 sz271 rfl cs o
theorem sz286 : sz Tryz.prog 286 = some 1 := by kernel_rfl
theorem zc286 : zeroCells Tryz.prog 286 = some [.int .u64 0] := by kernel_rfl
theorem rd286 (cs : List V) (o : Nat) : Q2 Tryz.prog 286 cs o = cs[o]? := Xw Tryz.underlying286 sz286 rfl cs o
abbrev ta := ai @sz3 <| ai @zc3 <| ai @rd3 <| ai @sz4 <| ai @zc4 <| ai @rd4 <| ai @sz5 <| ai @zc5 <| ai @rd5 <| ai @sz9 <| ai @zc9 <| ai @rd9 <| ai @ln9 <| ai @sz22 <| ai @zc22 <| ai @rd22 <| ai @ln22 <| ai @lnn22 <| ai @sz23 <| ai @zc23 <| ai @rd23 <| ai @ln23 <| ai @lnn23 <| ai @sz25 <| ai @zc25 <| ai @rd25 <| ai @fo25_0 <| ai @ff25_0 <| ai @fo25_1 <| ai @ff25_1 <| ai @bv25 <| ai @Qi1 <| ai @zc26 <| ai @rd26 <| ai @ln26 <| ai @lnn26 <| ai @Qr3 <| ai @zc27 <| ai @rd27 <| ai @sz29 <| ai @zc29 <| ai @rd29 <| ai @fo29_0 <| ai @ff29_0 <| ai @fo29_1 <| ai @ff29_1 <| ai @fo29_2 <| ai @ff29_2 <| ai @fo29_3 <| ai @ff29_3 <| ai @bv29 <| ai @sz31 <| ai @zc31 <| ai @rd31 <| ai @fo31_0 <| ai @ff31_0 <| ai @fo31_1 <| ai @ff31_1 <| ai @fo31_2 <| ai @ff31_2 <| ai @fo31_3 <| ai @ff31_3 <| ai @fo31_4 <| ai @ff31_4 <| ai @bv31 <| ai @sz32 <| ai @zc32 <| ai @rd32 <| ai @ln32 <| ai @lnn32 <| ai @sz33 <| ai @zc33 <| ai @Qoi <| ai @ln33 <| ai @lnn33 <| ai @sz34 <| ai @zc34 <| ai @Qvk <| ai @ln34 <| ai @lnn34 <| ai @sz36 <| ai @zc36 <| ai @rd36 <| ai @fo36_0 <| ai @ff36_0 <| ai @fo36_1 <| ai @ff36_1 <| ai @fo36_2 <| ai @ff36_2 <| ai @fo36_3 <| ai @ff36_3 <| ai @fo36_4 <| ai @ff36_4 <| ai @fo36_5 <| ai @ff36_5 <| ai @fo36_6 <| ai @ff36_6 <| ai @fo36_7 <| ai @ff36_7 <| ai @fo36_8 <| ai @ff36_8 <| ai @fo36_9 <| ai @ff36_9 <| ai @Q6w <| ai @Q6h <| ai @bv36 <| ai @sz40 <| ai @zc40 <| ai @rd40 <| ai @sz60 <| ai @zc60 <| ai @rd60 <| ai @ln60 <| ai @lnn60 <| ai @Qri <| ai @zc62 <| ai @rd62 <| ai @fo62_0 <| ai @ff62_0 <| ai @fo62_1 <| ai @ff62_1 <| ai @fo62_2 <| ai @ff62_2 <| ai @fo62_3 <| ai @ff62_3 <| ai @fo62_4 <| ai @ff62_4 <| ai @fo62_5 <| ai @ff62_5 <| ai @fo62_6 <| ai @ff62_6 <| ai @fo62_7 <| ai @ff62_7 <| ai @fo62_8 <| ai @ff62_8 <| ai @bv62 <| ai @sz86 <| ai @zc86 <| ai @rd86 <| ai @sz101 <| ai @zc101 <| ai @rd101 <| ai @Qpj <| ai @zc107 <| ai @rd107 <| ai @Q7m <| ai @Q68 <| ai @Q69 <| ai @Q8a <| ai @Q5v <| ai @Q6k <| ai @Q8k <| ai @Q7w <| ai @Q60 <| ai @Q6j <| ai @Q7b <| ai @Q8h <| ai @Q73 <| ai @Q6q <| ai @Q6s <| ai @Q7v <| ai @bv107 <| ai @sz113 <| ai @zc113 <| ai @rd113 <| ai @Q5i <| ai @Q5x <| ai @Q8e <| ai @Q8m <| ai @Q5l <| ai @Q7z <| ai @bv113 <| ai @sz142 <| ai @zc142 <| ai @rd142 <| ai @sz147 <| ai @zc147 <| ai @rd147 <| ai @sz196 <| ai @zc196 <| ai @rd196 <| ai @sz203 <| ai @zc203 <| ai @rd203 <| ai @Qma <| ai @Qyk <| ai @Q4t <| ai @Q76 <| ai @Q5p <| ai @Q7u <| ai @Q6y <| ai @bv242 <| ai @sz247 <| ai @zc247 <| ai @rd247 <| ai @sz271 <| ai @zc271 <| ai @rd271 <| ai @sz286 <| ai @zc286 <| @rd286
def Q2v (v1 v34 v35 v36 : V) : List V := [.bad, v1, .bad, .bad, .bad, .bad, .bad, .bad, .bad, .bad, .bad, .bad, .bad, .bad, .bad, .bad, .bad, .bad, .bad, .bad, .bad, .bad, .bad, .bad, .bad, .bad, .bad, .bad, .bad, .bad, .bad, .bad, .bad, .bad, v34, v35, v36, .bad, .bad, .bad, .bad, .bad, .bad, .bad, .bad, .bad, .bad, .bad, .bad, .bad, .bad, .bad, .bad, .bad, .bad, .bad, .bad, .bad, .bad, .bad, .bad, .bad, .bad, .bad, .bad, .bad, .bad, .bad, .bad, .bad, .bad, .bad, .bad, .bad, .bad, .bad, .bad, .bad, .bad, .bad, .bad, .bad, .bad, .bad, .bad, .bad, .bad, .bad, .bad, .bad, .bad, .bad, .bad, .bad, .bad, .bad, .bad, .bad, .bad, .bad, .bad, .bad, .bad, .bad, .bad, .bad, .bad, .bad, .bad, .bad, .bad, .bad, .bad, .bad, .bad, .bad, .bad, .bad, .bad, .bad, .bad, .bad, .bad, .bad, .bad, .bad, .bad, .bad, .bad, .bad, .bad, .bad, .bad, .bad, .bad, .bad, .bad, .bad, .bad, .bad, .bad, .bad, .bad, .bad, .bad, .bad, .bad, .bad, .bad, .bad, .bad, .bad, .bad, .bad]
def Qql (v1 v108 v109 v110 : V) : List V := [.bad, v1, .bad, .bad, .bad, .bad, .bad, .bad, .bad, .bad, .bad, .bad, .bad, .bad, .bad, .bad, .bad, .bad, .bad, .bad, .bad, .bad, .bad, .bad, .bad, .bad, .bad, .bad, .bad, .bad, .bad, .bad, .bad, .bad, .bad, .bad, .bad, .bad, .bad, .bad, .bad, .bad, .bad, .bad, .bad, .bad, .bad, .bad, .bad, .bad, .bad, .bad, .bad, .bad, .bad, .bad, .bad, .bad, .bad, .bad, .bad, .bad, .bad, .bad, .bad, .bad, .bad, .bad, .bad, .bad, .bad, .bad, .bad, .bad, .bad, .bad, .bad, .bad, .bad, .bad, .bad, .bad, .bad, .bad, .bad, .bad, .bad, .bad, .bad, .bad, .bad, .bad, .bad, .bad, .bad, .bad, .bad, .bad, .bad, .bad, .bad, .bad, .bad, .bad, .bad, .bad, .bad, .bad, v108, v109, v110, .bad, .bad, .bad, .bad, .bad, .bad, .bad, .bad, .bad, .bad, .bad, .bad, .bad, .bad, .bad, .bad, .bad, .bad, .bad, .bad, .bad, .bad, .bad, .bad, .bad, .bad, .bad, .bad, .bad, .bad, .bad, .bad, .bad, .bad, .bad, .bad, .bad, .bad, .bad, .bad, .bad, .bad, .bad]
def Q49 (v0 v1 v7 v8 : V) : List V := [v0, v1, .bad, .bad, .bad, .bad, .bad, v7, v8, .bad, .bad, .bad, .bad, .bad, .bad, .bad, .bad, .bad, .bad]
def Qv0 (v0 v10 v11 v12 : V) : List V := [v0, .bad, .bad, .bad, .bad, .bad, .bad, .bad, .bad, .bad, v10, v11, v12, .bad, .bad, .bad, .bad, .bad, .bad, .bad, .bad, .bad, .bad, .bad, .bad, .bad, .bad, .bad, .bad, .bad, .bad, .bad, .bad, .bad, .bad, .bad, .bad, .bad, .bad, .bad, .bad, .bad, .bad, .bad, .bad, .bad, .bad, .bad, .bad, .bad, .bad, .bad, .bad, .bad, .bad, .bad, .bad, .bad, .bad, .bad, .bad, .bad, .bad, .bad, .bad, .bad, .bad, .bad, .bad, .bad, .bad, .bad, .bad, .bad, .bad, .bad, .bad, .bad, .bad, .bad, .bad, .bad, .bad, .bad, .bad, .bad, .bad, .bad, .bad]
def Qqp (v0 v51 v52 v53 : V) : List V := [v0, .bad, .bad, .bad, .bad, .bad, .bad, .bad, .bad, .bad, .bad, .bad, .bad, .bad, .bad, .bad, .bad, .bad, .bad, .bad, .bad, .bad, .bad, .bad, .bad, .bad, .bad, .bad, .bad, .bad, .bad, .bad, .bad, .bad, .bad, .bad, .bad, .bad, .bad, .bad, .bad, .bad, .bad, .bad, .bad, .bad, .bad, .bad, .bad, .bad, .bad, v51, v52, v53, .bad, .bad, .bad, .bad, .bad, .bad, .bad, .bad, .bad, .bad, .bad, .bad, .bad, .bad, .bad, .bad, .bad, .bad, .bad, .bad, .bad, .bad, .bad, .bad, .bad, .bad, .bad, .bad, .bad, .bad, .bad, .bad, .bad, .bad, .bad]
def Q2h (v0 v1 v6 : V) : List V := [v0, v1, .bad, .bad, .bad, .bad, v6, .bad, .bad, .bad, .bad, .bad, .bad, .bad, .bad, .bad, .bad, .bad, .bad, .bad, .bad, .bad, .bad, .bad, .bad, .bad, .bad, .bad, .bad, .bad, .bad, .bad, .bad]
def Q3u (v0 v1 v7 v8 : V) : List V := [v0, v1, .bad, .bad, .bad, .bad, .bad, v7, v8, .bad, .bad, .bad, .bad, .bad, .bad, .bad, .bad, .bad, .bad]
def Qyw (v0 v2 v4 v8 v9 v10 : V) : List V := [v0, .bad, v2, .bad, v4, .bad, .bad, .bad, v8, v9, v10, .bad, .bad, .bad, .bad, .bad, .bad, .bad, .bad, .bad, .bad, .bad, .bad, .bad, .bad, .bad, .bad, .bad, .bad, .bad, .bad, .bad, .bad, .bad, .bad, .bad, .bad, .bad, .bad, .bad, .bad, .bad, .bad, .bad, .bad, .bad, .bad, .bad, .bad]
def Qy1 (v0 v1 v2 v4 : V) : List V := [v0, v1, v2, .bad, v4, .bad, .bad, .bad, .bad, .bad, .bad, .bad, .bad, .bad, .bad, .bad, .bad, .bad, .bad, .bad, .bad, .bad, .bad, .bad, .bad, .bad, .bad, .bad, .bad, .bad, .bad]
def Qlc (v1 v3 v19 v20 v21 : V) : List V := [.bad, v1, .bad, v3, .bad, .bad, .bad, .bad, .bad, .bad, .bad, .bad, .bad, .bad, .bad, .bad, .bad, .bad, .bad, v19, v20, v21, .bad, .bad, .bad, .bad, .bad, .bad, .bad, .bad, .bad, .bad, .bad, .bad, .bad, .bad, .bad, .bad, .bad, .bad, .bad, .bad, .bad, .bad, .bad, .bad, .bad, .bad, .bad, .bad, .bad, .bad, .bad]
def Qh4 (v3 v33 v34 v35 : V) : List V := [.bad, .bad, .bad, v3, .bad, .bad, .bad, .bad, .bad, .bad, .bad, .bad, .bad, .bad, .bad, .bad, .bad, .bad, .bad, .bad, .bad, .bad, .bad, .bad, .bad, .bad, .bad, .bad, .bad, .bad, .bad, .bad, .bad, v33, v34, v35, .bad, .bad, .bad, .bad, .bad, .bad, .bad, .bad, .bad, .bad, .bad, .bad, .bad, .bad, .bad, .bad, .bad]
def Qs3 (v0 v8 v9 v10 : V) : List V := [v0, .bad, .bad, .bad, .bad, .bad, .bad, .bad, v8, v9, v10, .bad, .bad, .bad, .bad, .bad, .bad, .bad, .bad, .bad, .bad, .bad, .bad, .bad, .bad, .bad, .bad, .bad, .bad, .bad, .bad, .bad, .bad, .bad, .bad, .bad, .bad, .bad]
def Qyi (v0 v1 v2 v8 v9 v10 : V) : List V := [v0, v1, v2, .bad, .bad, .bad, .bad, .bad, v8, v9, v10, .bad, .bad, .bad, .bad, .bad, .bad, .bad, .bad, .bad, .bad, .bad, .bad, .bad, .bad, .bad, .bad, .bad, .bad, .bad, .bad, .bad, .bad, .bad, .bad, .bad, .bad, .bad, .bad, .bad, .bad, .bad, .bad, .bad, .bad, .bad, .bad, .bad, .bad]
def Qye (v3 v6 v7 v8 : V) : List V := [.bad, .bad, .bad, v3, .bad, .bad, v6, v7, v8, .bad, .bad, .bad, .bad, .bad, .bad, .bad, .bad, .bad]
def Qzk (v3 v9 v10 : V) : List V := [.bad, .bad, .bad, v3, .bad, .bad, .bad, .bad, .bad, v9, v10, .bad, .bad, .bad, .bad, .bad, .bad, .bad, .bad, .bad, .bad, .bad, .bad, .bad]
def Qy8 (v1 v2 v3 v11 v12 v13 : V) : List V := [.bad, v1, v2, v3, .bad, .bad, .bad, .bad, .bad, .bad, .bad, v11, v12, v13, .bad, .bad, .bad, .bad, .bad, .bad, .bad, .bad, .bad, .bad, .bad, .bad, .bad, .bad, .bad, .bad, .bad, .bad, .bad, .bad, .bad, .bad, .bad, .bad, .bad, .bad, .bad, .bad, .bad, .bad, .bad, .bad, .bad, .bad, .bad, .bad, .bad, .bad, .bad, .bad, .bad, .bad, .bad, .bad, .bad, .bad, .bad]
def Qyc (v1 v2 v27 v28 v29 : V) : List V := [.bad, v1, v2, .bad, .bad, .bad, .bad, .bad, .bad, .bad, .bad, .bad, .bad, .bad, .bad, .bad, .bad, .bad, .bad, .bad, .bad, .bad, .bad, .bad, .bad, .bad, .bad, v27, v28, v29, .bad, .bad, .bad, .bad, .bad, .bad, .bad, .bad, .bad, .bad, .bad, .bad, .bad, .bad, .bad, .bad, .bad, .bad, .bad, .bad, .bad, .bad, .bad, .bad, .bad, .bad, .bad, .bad, .bad, .bad, .bad]
def Qml (v2 v43 v44 v45 : V) : List V := [.bad, .bad, v2, .bad, .bad, .bad, .bad, .bad, .bad, .bad, .bad, .bad, .bad, .bad, .bad, .bad, .bad, .bad, .bad, .bad, .bad, .bad, .bad, .bad, .bad, .bad, .bad, .bad, .bad, .bad, .bad, .bad, .bad, .bad, .bad, .bad, .bad, .bad, .bad, .bad, .bad, .bad, .bad, v43, v44, v45, .bad, .bad, .bad, .bad, .bad, .bad, .bad, .bad, .bad, .bad, .bad, .bad, .bad, .bad, .bad]
def Qys (v0 v2 v3 v9 v10 v11 : V) : List V := [v0, .bad, v2, v3, .bad, .bad, .bad, .bad, .bad, v9, v10, v11, .bad, .bad, .bad, .bad, .bad, .bad, .bad, .bad, .bad, .bad, .bad, .bad, .bad, .bad, .bad, .bad, .bad, .bad, .bad, .bad, .bad, .bad, .bad, .bad, .bad, .bad]
def Qq7 (v2 v6 v21 v22 v23 : V) : List V := [.bad, .bad, v2, .bad, .bad, .bad, v6, .bad, .bad, .bad, .bad, .bad, .bad, .bad, .bad, .bad, .bad, .bad, .bad, .bad, .bad, v21, v22, v23, .bad, .bad, .bad, .bad, .bad, .bad, .bad, .bad, .bad, .bad, .bad, .bad, .bad, .bad]
def Qzc (v7 v8 : V) : List V := [.bad, .bad, .bad, .bad, .bad, .bad, .bad, v7, v8, .bad, .bad, .bad, .bad, .bad, .bad, .bad, .bad, .bad, .bad, .bad, .bad, .bad, .bad, .bad, .bad, .bad, .bad, .bad, .bad, .bad, .bad, .bad, .bad, .bad, .bad, .bad, .bad, .bad, .bad, .bad, .bad, .bad, .bad, .bad, .bad, .bad, .bad, .bad]
def Qf5 (v2 v4 v16 : V) : List V := [.bad, .bad, v2, .bad, v4, .bad, .bad, .bad, .bad, .bad, .bad, .bad, .bad, .bad, .bad, .bad, v16, .bad, .bad, .bad, .bad, .bad, .bad, .bad, .bad, .bad, .bad, .bad, .bad, .bad, .bad]
def Qqq (v0 v3 v4 : V) : List V := [v0, .bad, .bad, v3, v4, .bad, .bad, .bad, .bad, .bad, .bad, .bad, .bad, .bad, .bad, .bad, .bad, .bad, .bad, .bad, .bad, .bad, .bad, .bad, .bad]
def Qyy (v0 v2 v3 v4 : V) : List V := [v0, .bad, v2, v3, v4, .bad, .bad, .bad, .bad, .bad, .bad, .bad, .bad, .bad, .bad, .bad, .bad, .bad, .bad, .bad, .bad, .bad, .bad, .bad, .bad, .bad, .bad, .bad, .bad, .bad, .bad, .bad, .bad, .bad, .bad, .bad, .bad, .bad, .bad, .bad, .bad, .bad, .bad, .bad, .bad, .bad, .bad]
def Qsl (v1 v5 v10 v11 v12 : V) : List V := [.bad, v1, .bad, .bad, .bad, v5, .bad, .bad, .bad, .bad, v10, v11, v12, .bad, .bad, .bad, .bad, .bad, .bad, .bad, .bad, .bad, .bad, .bad, .bad, .bad]
def Qyb (v2 v4 v5 v6 : V) : List V := [.bad, .bad, v2, .bad, v4, v5, v6, .bad, .bad, .bad, .bad, .bad]
def Qrr (v0 v1 v3 : V) : List V := [v0, v1, .bad, v3, .bad, .bad, .bad, .bad, .bad, .bad, .bad, .bad, .bad, .bad, .bad, .bad, .bad, .bad, .bad]
end
end Go.Proofs.YtafhcdagifopeaaGreatDoor
