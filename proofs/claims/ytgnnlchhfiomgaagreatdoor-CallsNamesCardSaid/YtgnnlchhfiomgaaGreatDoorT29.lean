/- This file holds in one the texts D00, D0, DF; each says at its head what it proves. -/
import Derived.Test.YtgnnlchhfiomgaaGreatDoorT13
import Derived.Test.YtgnnlchhfiomgaaGreatDoorT27
import Derived.Test.YtgnnlchhfiomgaaGreatDoorChecked
set_option linter.unusedSimpArgs false
set_option linter.unusedVariables false
namespace Go.Proofs.YtgnnlchhfiomgaaGreatDoor
section
open Go.AM
theorem Qt7 {α : Type} (g : α -> Bool) (l : List α) (c : Nat) : ∀ k : Nat, (∀ i, i < k -> ((l.drop (c * i)).take c).all g = true) -> (l.drop (c * k)).all g = true -> l.all g = true
 | 0, _, h => by simpa using h
 | k + 1, h1, h2 => by
   refine Qt7 g l c k (fun i hi => h1 i (by omega)) ?_
   have e : l.drop (c * k) = (l.drop (c * k)).take c ++ l.drop (c * (k + 1)) := by
    have := (Zku c (l.drop (c * k))).symm
    rw [Zkx] at this
    rw [Nat.mul_succ]; exact this
   rw [e, List.all_append, h1 k (by omega), h2]; rfl
def gD (F : Func) : Bool := match F.body with | some c => drawsC c | none => true
def gN (F : Func) : Bool := F.body.isNone || !(F.name == "runtime.NumGoroutine")
def gL (F : Func) : Bool := match F.body with | some c => decide ((Q6 c).Nodup) && flatC c | none => true
theorem dr0 : ((Tryz.prog.funcs.toList.drop (40 * 0)).take 40).all gD = true := by kernel_rfl
theorem dr1 : ((Tryz.prog.funcs.toList.drop (40 * 1)).take 40).all gD = true := by kernel_rfl
theorem dr2 : ((Tryz.prog.funcs.toList.drop (40 * 2)).take 40).all gD = true := by kernel_rfl
theorem dr3 : ((Tryz.prog.funcs.toList.drop (40 * 3)).take 40).all gD = true := by kernel_rfl
theorem dr4 : ((Tryz.prog.funcs.toList.drop (40 * 4)).take 40).all gD = true := by kernel_rfl
theorem dr5 : ((Tryz.prog.funcs.toList.drop (40 * 5)).take 40).all gD = true := by kernel_rfl
theorem dr6 : ((Tryz.prog.funcs.toList.drop (40 * 6)).take 40).all gD = true := by kernel_rfl
theorem dr7 : ((Tryz.prog.funcs.toList.drop (40 * 7)).take 40).all gD = true := by kernel_rfl
theorem dr8 : ((Tryz.prog.funcs.toList.drop (40 * 8)).take 40).all gD = true := by kernel_rfl
theorem dr9 : ((Tryz.prog.funcs.toList.drop (40 * 9)).take 40).all gD = true := by kernel_rfl
theorem dr10 : ((Tryz.prog.funcs.toList.drop (40 * 10)).take 40).all gD = true := by kernel_rfl
theorem drE : (Tryz.prog.funcs.toList.drop (40 * 11)).all gD = true := by kernel_rfl
theorem Q0h : Tryz.prog.funcs.all gD = true := by
 rw [<- Array.all_toList]
 refine Qt7 gD _ 40 11 ?_ drE
 intro i hi
 match i, hi with
 | 0, _ => exact dr0
 | 1, _ => exact dr1
 | 2, _ => exact dr2
 | 3, _ => exact dr3
 | 4, _ => exact dr4
 | 5, _ => exact dr5
 | 6, _ => exact dr6
 | 7, _ => exact dr7
 | 8, _ => exact dr8
 | 9, _ => exact dr9
 | 10, _ => exact dr10
 | n + 11, h => omega
theorem Q60 : Tryz.prog.funcs.all gN = true := by kernel_rfl
theorem Q0r : Tryz.prog.funcs.all gL = true := by kernel_rfl
end
section
open Go.AM
def inlD : List Nat := [166, 92, 91, 30, 74, 387, 26, 90, 27, 85, 164, 83, 84]
def Qz : Pol where
 pure := fun _ g => !inlD.contains g
 mt := fun f s => [(166, 32), (73, 5), (73, 7), (74, 5), (74, 7)].contains (f, s)
 keep := fun f r => match f, r with
  | 79, 3 => some ([1, 3, 19, 20, 21], [])
  | 79, 8 => some ([3, 33, 34, 35], [7])
  | 92, 3 => some ([1, 2, 3, 11, 12, 13], [])
  | 92, 9 => some ([1, 2, 27, 28, 29], [])
  | 92, 14 => some ([2, 43, 44, 45], [9])
  | 30, 3 => some ([2, 4, 16], [6])
  | 166, 3 => some ([0, 2, 3, 9, 10, 11], [])
  | 166, 9 => some ([2, 6, 21, 22, 23], [32])
  | 242, 8 => some ([7, 8], [])
  | 91, 3 => some ([1, 5, 10, 11, 12], [7])
  | 161, 5 => some ([0, 3, 4], [])
  | 307, 2 => some ([2, 4, 5, 6], [])
  | 195, 3 => some ([0, 2, 3, 4], [])
  | 343, 1 => some ([0, 1, 2, 4], [])
  | 350, 1 => some ([0, 1, 3], [])
  | 106, 4 => some ([0, 1, 6], [])
  | 108, 3 => some ([3, 9, 10], [])
  | 10, 4 => some ([1, 34, 35, 36], [])
  | 10, 12 => some ([1, 108, 109, 110], [6])
  | 164, 2 => some ([0, 1, 7, 8], [])
  | 90, 2 => some ([0, 1, 7, 8], [])
  | 21, 4 => some ([0, 10, 11, 12], [4])
  | 21, 10 => some ([0, 51, 52, 53], [4, 6])
  | 330, 3 => some ([0, 2, 4, 8, 9, 10], [])
  | 86, 3 => some ([0, 1, 2, 8, 9, 10], [])
  | 81, 4 => some ([0, 8, 9, 10], [4])
  | 89, 3 => some ([3, 6, 7, 8], [])
  | _, _ => none
 thin := fun _ g => g == 166
 lift := fun _ g => g == 74
 look := fun _ g => g == 84
 prim := fun f => if f = 263 then some Ka else none
theorem xCnt : Kg Tryz.prog 263 Extern.BytealgCount.count := ⟨Tryz.f263, Tryz.func263, by kernel_rfl, by kernel_rfl, by kernel_rfl, by kernel_rfl⟩
theorem okD : Okay Tryz.prog Qz where
 mixed := Tryz.checked.mixed
 draws := fun f F c hF hc => by
  have := Zln.1 Q0h F (Array.mem_of_getElem? hF)
  unfold gD at this
  rwa [hc] at this
 loops := fun f F c hF hc => by
  have := Zln.1 Q0r F (Array.mem_of_getElem? hF)
  unfold gL at this
  rw [hc] at this
  simpa using this
 num := fun f F hF hb => by
  have := Zln.1 Q60 F (Array.mem_of_getElem? hF)
  unfold gN at this
  cases hn : F.body with
  | none => rw [hn] at hb; cases hb
  | some c => rw [hn] at this; simpa using this
 prim := fun f g hg B F H E fr dst args cargs v x S hlt hr h => by
  by_cases hf : f = 263
  . subst hf
    have e : Qz.prim 263 = some Ka := rfl
    rw [e] at hg
    cases hg
    exact sound_count xCnt S hr h
  . have e : Qz.prim f = none := if_neg hf
    rw [e] at hg
    cases hg
end
section
open Go.AM
theorem sz3 : sz Tryz.prog 3 = some 1 := by kernel_rfl
theorem zc3 : zeroCells Tryz.prog 3 = some [.int .i64 0] := by kernel_rfl
theorem rd3 (cs : List V) (o : Nat) : Q2 Tryz.prog 3 cs o = cs[o]? := X7 Tryz.underlying3 sz3 rfl cs o
theorem sz4 : sz Tryz.prog 4 = some 1 := by kernel_rfl
theorem zc4 : zeroCells Tryz.prog 4 = some [.bool false] := by kernel_rfl
theorem rd4 (cs : List V) (o : Nat) : Q2 Tryz.prog 4 cs o = cs[o]? := X7 Tryz.underlying4 sz4 rfl cs o
theorem sz5 : sz Tryz.prog 5 = some 1 := by kernel_rfl
theorem zc5 : zeroCells Tryz.prog 5 = some [.int .u8 0] := by kernel_rfl
theorem rd5 (cs : List V) (o : Nat) : Q2 Tryz.prog 5 cs o = cs[o]? := X7 Tryz.underlying5 sz5 rfl cs o
theorem sz9 : sz Tryz.prog 9 = some 1 := by kernel_rfl
theorem zc9 : zeroCells Tryz.prog 9 = some [.str []] := by kernel_rfl
theorem rd9 (cs : List V) (o : Nat) : Q2 Tryz.prog 9 cs o = cs[o]? := X7 Tryz.underlying9 sz9 rfl cs o
theorem ln9 (g : Get) (s : List UInt8) : Y5 Tryz.prog g 9 (.str s) = some (.int .i64 s.length) := ln_str Tryz.underlying9 s
theorem sz22 : sz Tryz.prog 22 = some 1 := by kernel_rfl
theorem zc22 : zeroCells Tryz.prog 22 = some [.nS] := by kernel_rfl
theorem rd22 (cs : List V) (o : Nat) : Q2 Tryz.prog 22 cs o = cs[o]? := X7 Tryz.underlying22 sz22 rfl cs o
theorem ln22 (g : Get) (cs : List V) (len : Nat) (full : Bool) : Y5 Tryz.prog g 22 (.iS cs len full) = some (.int .i64 len) := Br Tryz.underlying22 cs len full
theorem lnn22 (g : Get) : Y5 Tryz.prog g 22 .nS = some (.int .i64 0) := Qei Tryz.underlying22
theorem sz23 : sz Tryz.prog 23 = some 1 := by kernel_rfl
theorem zc23 : zeroCells Tryz.prog 23 = some [.nS] := by kernel_rfl
theorem rd23 (cs : List V) (o : Nat) : Q2 Tryz.prog 23 cs o = cs[o]? := X7 Tryz.underlying23 sz23 rfl cs o
theorem ln23 (g : Get) (cs : List V) (len : Nat) (full : Bool) : Y5 Tryz.prog g 23 (.iS cs len full) = some (.int .i64 len) := Br Tryz.underlying23 cs len full
theorem lnn23 (g : Get) : Y5 Tryz.prog g 23 .nS = some (.int .i64 0) := Qei Tryz.underlying23
theorem sz25 : sz Tryz.prog 25 = some 2 := by kernel_rfl
theorem zc25 : zeroCells Tryz.prog 25 = some [.nS, .nS] := by kernel_rfl
theorem rd25 (cs : List V) (o : Nat) : Q2 Tryz.prog 25 cs o = if o + 2 <= cs.length then some (.agg ((cs.drop o).take 2)) else none := Qiw Tryz.underlying25 sz25 rfl cs o
theorem fo25_0 : Yo Tryz.prog 25 0 = some (0, 22) := by kernel_rfl
theorem ff25_0 : Yp Tryz.prog 25 0 = some (0, 22) := by kernel_rfl
theorem fo25_1 : Yo Tryz.prog 25 1 = some (1, 23) := by kernel_rfl
theorem ff25_1 : Yp Tryz.prog 25 1 = some (1, 23) := by kernel_rfl
theorem bv25 (parts : List (Nat × V)) : Xt Tryz.prog 25 parts = (Qo (fun i => ([(0, 1), (1, 1)] : List (Nat × Nat))[i]?) [.nS, .nS] parts).map .agg := Qkh zc25 (by kernel_rfl) parts
theorem Qje : sz Tryz.prog 26 = some 1 := by kernel_rfl
theorem zc26 : zeroCells Tryz.prog 26 = some [.nS] := by kernel_rfl
theorem rd26 (cs : List V) (o : Nat) : Q2 Tryz.prog 26 cs o = cs[o]? := X7 Tryz.underlying26 Qje rfl cs o
theorem ln26 (g : Get) (cs : List V) (len : Nat) (full : Bool) : Y5 Tryz.prog g 26 (.iS cs len full) = some (.int .i64 len) := Br Tryz.underlying26 cs len full
theorem lnn26 (g : Get) : Y5 Tryz.prog g 26 .nS = some (.int .i64 0) := Qei Tryz.underlying26
theorem Qsd : sz Tryz.prog 27 = some 1 := by kernel_rfl
theorem zc27 : zeroCells Tryz.prog 27 = some [.int .u32 0] := by kernel_rfl
theorem rd27 (cs : List V) (o : Nat) : Q2 Tryz.prog 27 cs o = cs[o]? := X7 Tryz.underlying27 Qsd rfl cs o
theorem sz29 : sz Tryz.prog 29 = some 5 := by kernel_rfl
theorem zc29 : zeroCells Tryz.prog 29 = some [.nS, .nS, .nS, .int .u32 0, .int .u32 0] := by kernel_rfl
theorem rd29 (cs : List V) (o : Nat) : Q2 Tryz.prog 29 cs o = if o + 5 <= cs.length then some (.agg ((cs.drop o).take 5)) else none := Qiw Tryz.underlying29 sz29 rfl cs o
theorem fo29_0 : Yo Tryz.prog 29 0 = some (0, 25) := by kernel_rfl
theorem ff29_0 : Yp Tryz.prog 29 0 = some (0, 25) := by kernel_rfl
theorem fo29_1 : Yo Tryz.prog 29 1 = some (2, 26) := by kernel_rfl
theorem ff29_1 : Yp Tryz.prog 29 1 = some (2, 26) := by kernel_rfl
theorem fo29_2 : Yo Tryz.prog 29 2 = some (3, 27) := by kernel_rfl
theorem ff29_2 : Yp Tryz.prog 29 2 = some (3, 27) := by kernel_rfl
theorem fo29_3 : Yo Tryz.prog 29 3 = some (4, 27) := by kernel_rfl
theorem ff29_3 : Yp Tryz.prog 29 3 = some (4, 27) := by kernel_rfl
theorem bv29 (parts : List (Nat × V)) : Xt Tryz.prog 29 parts = (Qo (fun i => ([(0, 2), (2, 1), (3, 1), (4, 1)] : List (Nat × Nat))[i]?) [.nS, .nS, .nS, .int .u32 0, .int .u32 0] parts).map .agg := Qkh zc29 (by kernel_rfl) parts
theorem sz31 : sz Tryz.prog 31 = some 5 := by kernel_rfl
theorem zc31 : zeroCells Tryz.prog 31 = some [.int .i64 0, .int .u32 0, .int .u32 0, .int .u32 0, .int .u32 0] := by kernel_rfl
theorem rd31 (cs : List V) (o : Nat) : Q2 Tryz.prog 31 cs o = if o + 5 <= cs.length then some (.agg ((cs.drop o).take 5)) else none := Qiw Tryz.underlying31 sz31 rfl cs o
theorem fo31_0 : Yo Tryz.prog 31 0 = some (0, 3) := by kernel_rfl
theorem ff31_0 : Yp Tryz.prog 31 0 = some (0, 3) := by kernel_rfl
theorem fo31_1 : Yo Tryz.prog 31 1 = some (1, 27) := by kernel_rfl
theorem ff31_1 : Yp Tryz.prog 31 1 = some (1, 27) := by kernel_rfl
theorem fo31_2 : Yo Tryz.prog 31 2 = some (2, 27) := by kernel_rfl
theorem ff31_2 : Yp Tryz.prog 31 2 = some (2, 27) := by kernel_rfl
theorem fo31_3 : Yo Tryz.prog 31 3 = some (3, 27) := by kernel_rfl
theorem ff31_3 : Yp Tryz.prog 31 3 = some (3, 27) := by kernel_rfl
theorem fo31_4 : Yo Tryz.prog 31 4 = some (4, 27) := by kernel_rfl
theorem ff31_4 : Yp Tryz.prog 31 4 = some (4, 27) := by kernel_rfl
theorem bv31 (parts : List (Nat × V)) : Xt Tryz.prog 31 parts = (Qo (fun i => ([(0, 1), (1, 1), (2, 1), (3, 1), (4, 1)] : List (Nat × Nat))[i]?) [.int .i64 0, .int .u32 0, .int .u32 0, .int .u32 0, .int .u32 0] parts).map .agg := Qkh zc31 (by kernel_rfl) parts
theorem sz32 : sz Tryz.prog 32 = some 1 := by kernel_rfl
theorem zc32 : zeroCells Tryz.prog 32 = some [.nS] := by kernel_rfl
theorem rd32 (cs : List V) (o : Nat) : Q2 Tryz.prog 32 cs o = cs[o]? := X7 Tryz.underlying32 sz32 rfl cs o
theorem ln32 (g : Get) (cs : List V) (len : Nat) (full : Bool) : Y5 Tryz.prog g 32 (.iS cs len full) = some (.int .i64 len) := Br Tryz.underlying32 cs len full
theorem lnn32 (g : Get) : Y5 Tryz.prog g 32 .nS = some (.int .i64 0) := Qei Tryz.underlying32
theorem sz33 : sz Tryz.prog 33 = some 1 := by kernel_rfl
theorem zc33 : zeroCells Tryz.prog 33 = some [.nS] := by kernel_rfl
theorem Qpk (cs : List V) (o : Nat) : Q2 Tryz.prog 33 cs o = cs[o]? := X7 Tryz.underlying33 sz33 rfl cs o
theorem ln33 (g : Get) (cs : List V) (len : Nat) (full : Bool) : Y5 Tryz.prog g 33 (.iS cs len full) = some (.int .i64 len) := Br Tryz.underlying33 cs len full
theorem lnn33 (g : Get) : Y5 Tryz.prog g 33 .nS = some (.int .i64 0) := Qei Tryz.underlying33
theorem sz34 : sz Tryz.prog 34 = some 1 := by kernel_rfl
theorem zc34 : zeroCells Tryz.prog 34 = some [.nS] := by kernel_rfl
theorem Qva (cs : List V) (o : Nat) : Q2 Tryz.prog 34 cs o = cs[o]? := X7 Tryz.underlying34 sz34 rfl cs o
theorem ln34 (g : Get) (cs : List V) (len : Nat) (full : Bool) : Y5 Tryz.prog g 34 (.iS cs len full) = some (.int .i64 len) := Br Tryz.underlying34 cs len full
theorem lnn34 (g : Get) : Y5 Tryz.prog g 34 .nS = some (.int .i64 0) := Qei Tryz.underlying34
theorem sz36 : sz Tryz.prog 36 = some 19 := by kernel_rfl
theorem zc36 : zeroCells Tryz.prog 36 = some [.nS, .nS, .nS, .int .u32 0, .int .u32 0, .int .u32 0, .int .i64 0, .int .u32 0, .int .u32 0, .int .u32 0, .int .u32 0, .nS, .nS, .nS, .nS, .nS, .int .i64 0, .int .i64 0, .int .u32 0] := by kernel_rfl
theorem rd36 (cs : List V) (o : Nat) : Q2 Tryz.prog 36 cs o = if o + 19 <= cs.length then some (.agg ((cs.drop o).take 19)) else none := Qiw Tryz.underlying36 sz36 rfl cs o
theorem fo36_0 : Yo Tryz.prog 36 0 = some (0, 29) := by kernel_rfl
theorem ff36_0 : Yp Tryz.prog 36 0 = some (0, 29) := by kernel_rfl
theorem fo36_1 : Yo Tryz.prog 36 1 = some (5, 27) := by kernel_rfl
theorem ff36_1 : Yp Tryz.prog 36 1 = some (5, 27) := by kernel_rfl
theorem fo36_2 : Yo Tryz.prog 36 2 = some (6, 31) := by kernel_rfl
theorem ff36_2 : Yp Tryz.prog 36 2 = some (6, 31) := by kernel_rfl
theorem fo36_3 : Yo Tryz.prog 36 3 = some (11, 32) := by kernel_rfl
theorem ff36_3 : Yp Tryz.prog 36 3 = some (11, 32) := by kernel_rfl
theorem fo36_4 : Yo Tryz.prog 36 4 = some (12, 33) := by kernel_rfl
theorem ff36_4 : Yp Tryz.prog 36 4 = some (12, 33) := by kernel_rfl
theorem fo36_5 : Yo Tryz.prog 36 5 = some (13, 22) := by kernel_rfl
theorem ff36_5 : Yp Tryz.prog 36 5 = some (13, 22) := by kernel_rfl
theorem fo36_6 : Yo Tryz.prog 36 6 = some (14, 22) := by kernel_rfl
theorem ff36_6 : Yp Tryz.prog 36 6 = some (14, 22) := by kernel_rfl
theorem fo36_7 : Yo Tryz.prog 36 7 = some (15, 34) := by kernel_rfl
theorem ff36_7 : Yp Tryz.prog 36 7 = some (15, 34) := by kernel_rfl
theorem fo36_8 : Yo Tryz.prog 36 8 = some (16, 3) := by kernel_rfl
theorem ff36_8 : Yp Tryz.prog 36 8 = some (16, 3) := by kernel_rfl
theorem fo36_9 : Yo Tryz.prog 36 9 = some (17, 3) := by kernel_rfl
theorem ff36_9 : Yp Tryz.prog 36 9 = some (17, 3) := by kernel_rfl
theorem Q5u : Yo Tryz.prog 36 10 = some (18, 27) := by kernel_rfl
theorem Q5o : Yp Tryz.prog 36 10 = some (18, 27) := by kernel_rfl
theorem bv36 (parts : List (Nat × V)) : Xt Tryz.prog 36 parts = (Qo (fun i => ([(0, 5), (5, 1), (6, 5), (11, 1), (12, 1), (13, 1), (14, 1), (15, 1), (16, 1), (17, 1), (18, 1)] : List (Nat × Nat))[i]?) [.nS, .nS, .nS, .int .u32 0, .int .u32 0, .int .u32 0, .int .i64 0, .int .u32 0, .int .u32 0, .int .u32 0, .int .u32 0, .nS, .nS, .nS, .nS, .nS, .int .i64 0, .int .i64 0, .int .u32 0] parts).map .agg := Qkh zc36 (by kernel_rfl) parts
theorem sz44 : sz Tryz.prog 44 = some 1 := by kernel_rfl
theorem zc44 : zeroCells Tryz.prog 44 = some [.int .i64 0] := by kernel_rfl
theorem rd44 (cs : List V) (o : Nat) : Q2 Tryz.prog 44 cs o = cs[o]? := X7 Tryz.underlying44 sz44 rfl cs o
theorem sz75 : sz Tryz.prog 75 = some 12 := by kernel_rfl
theorem zc75 : zeroCells Tryz.prog 75 = some [.int .i64 0, .int .i64 0, .int .i64 0, .int .u8 0, .int .i64 0, .int .i64 0, .nS, .int .i64 0, .int .u32 0, .int .u32 0, .int .u32 0, .int .u32 0] := by kernel_rfl
theorem rd75 (cs : List V) (o : Nat) : Q2 Tryz.prog 75 cs o = if o + 12 <= cs.length then some (.agg ((cs.drop o).take 12)) else none := Qiw Tryz.underlying75 sz75 rfl cs o
theorem fo75_0 : Yo Tryz.prog 75 0 = some (0, 3) := by kernel_rfl
theorem ff75_0 : Yp Tryz.prog 75 0 = some (0, 3) := by kernel_rfl
theorem fo75_1 : Yo Tryz.prog 75 1 = some (1, 3) := by kernel_rfl
theorem ff75_1 : Yp Tryz.prog 75 1 = some (1, 3) := by kernel_rfl
theorem fo75_2 : Yo Tryz.prog 75 2 = some (2, 3) := by kernel_rfl
theorem ff75_2 : Yp Tryz.prog 75 2 = some (2, 3) := by kernel_rfl
theorem fo75_3 : Yo Tryz.prog 75 3 = some (3, 5) := by kernel_rfl
theorem ff75_3 : Yp Tryz.prog 75 3 = some (3, 5) := by kernel_rfl
theorem fo75_4 : Yo Tryz.prog 75 4 = some (4, 3) := by kernel_rfl
theorem ff75_4 : Yp Tryz.prog 75 4 = some (4, 3) := by kernel_rfl
theorem fo75_5 : Yo Tryz.prog 75 5 = some (5, 3) := by kernel_rfl
theorem ff75_5 : Yp Tryz.prog 75 5 = some (5, 3) := by kernel_rfl
theorem fo75_6 : Yo Tryz.prog 75 6 = some (6, 26) := by kernel_rfl
theorem ff75_6 : Yp Tryz.prog 75 6 = some (6, 26) := by kernel_rfl
theorem fo75_7 : Yo Tryz.prog 75 7 = some (7, 31) := by kernel_rfl
theorem ff75_7 : Yp Tryz.prog 75 7 = some (7, 31) := by kernel_rfl
theorem bv75 (parts : List (Nat × V)) : Xt Tryz.prog 75 parts = (Qo (fun i => ([(0, 1), (1, 1), (2, 1), (3, 1), (4, 1), (5, 1), (6, 1), (7, 5)] : List (Nat × Nat))[i]?) [.int .i64 0, .int .i64 0, .int .i64 0, .int .u8 0, .int .i64 0, .int .i64 0, .nS, .int .i64 0, .int .u32 0, .int .u32 0, .int .u32 0, .int .u32 0] parts).map .agg := Qkh zc75 (by kernel_rfl) parts
theorem sz76 : sz Tryz.prog 76 = some 1 := by kernel_rfl
theorem zc76 : zeroCells Tryz.prog 76 = some [.nP] := by kernel_rfl
theorem rd76 (cs : List V) (o : Nat) : Q2 Tryz.prog 76 cs o = cs[o]? := X7 Tryz.underlying76 sz76 rfl cs o
theorem sz78 : sz Tryz.prog 78 = some 1 := by kernel_rfl
theorem zc78 : zeroCells Tryz.prog 78 = some [.nS] := by kernel_rfl
theorem rd78 (cs : List V) (o : Nat) : Q2 Tryz.prog 78 cs o = cs[o]? := X7 Tryz.underlying78 sz78 rfl cs o
theorem ln78 (g : Get) (cs : List V) (len : Nat) (full : Bool) : Y5 Tryz.prog g 78 (.iS cs len full) = some (.int .i64 len) := Br Tryz.underlying78 cs len full
theorem lnn78 (g : Get) : Y5 Tryz.prog g 78 .nS = some (.int .i64 0) := Qei Tryz.underlying78
theorem Qsa : sz Tryz.prog 80 = some 13 := by kernel_rfl
theorem zc80 : zeroCells Tryz.prog 80 = some [.int .i64 0, .int .u8 0, .int .i64 0, .int .i64 0, .int .u32 0, .int .u32 0, .int .i64 0, .int .i64 0, .int .u32 0, .int .u32 0, .int .u32 0, .int .u32 0, .nS] := by kernel_rfl
theorem rd80 (cs : List V) (o : Nat) : Q2 Tryz.prog 80 cs o = if o + 13 <= cs.length then some (.agg ((cs.drop o).take 13)) else none := Qiw Tryz.underlying80 Qsa rfl cs o
theorem fo80_0 : Yo Tryz.prog 80 0 = some (0, 3) := by kernel_rfl
theorem ff80_0 : Yp Tryz.prog 80 0 = some (0, 3) := by kernel_rfl
theorem fo80_1 : Yo Tryz.prog 80 1 = some (1, 5) := by kernel_rfl
theorem ff80_1 : Yp Tryz.prog 80 1 = some (1, 5) := by kernel_rfl
theorem fo80_2 : Yo Tryz.prog 80 2 = some (2, 3) := by kernel_rfl
theorem ff80_2 : Yp Tryz.prog 80 2 = some (2, 3) := by kernel_rfl
theorem fo80_3 : Yo Tryz.prog 80 3 = some (3, 3) := by kernel_rfl
theorem ff80_3 : Yp Tryz.prog 80 3 = some (3, 3) := by kernel_rfl
theorem fo80_4 : Yo Tryz.prog 80 4 = some (4, 27) := by kernel_rfl
theorem ff80_4 : Yp Tryz.prog 80 4 = some (4, 27) := by kernel_rfl
theorem fo80_5 : Yo Tryz.prog 80 5 = some (5, 27) := by kernel_rfl
theorem ff80_5 : Yp Tryz.prog 80 5 = some (5, 27) := by kernel_rfl
theorem fo80_6 : Yo Tryz.prog 80 6 = some (6, 3) := by kernel_rfl
theorem ff80_6 : Yp Tryz.prog 80 6 = some (6, 3) := by kernel_rfl
theorem fo80_7 : Yo Tryz.prog 80 7 = some (7, 31) := by kernel_rfl
theorem ff80_7 : Yp Tryz.prog 80 7 = some (7, 31) := by kernel_rfl
theorem fo80_8 : Yo Tryz.prog 80 8 = some (12, 78) := by kernel_rfl
theorem ff80_8 : Yp Tryz.prog 80 8 = some (12, 78) := by kernel_rfl
theorem bv80 (parts : List (Nat × V)) : Xt Tryz.prog 80 parts = (Qo (fun i => ([(0, 1), (1, 1), (2, 1), (3, 1), (4, 1), (5, 1), (6, 1), (7, 5), (12, 1)] : List (Nat × Nat))[i]?) [.int .i64 0, .int .u8 0, .int .i64 0, .int .i64 0, .int .u32 0, .int .u32 0, .int .i64 0, .int .i64 0, .int .u32 0, .int .u32 0, .int .u32 0, .int .u32 0, .nS] parts).map .agg := Qkh zc80 (by kernel_rfl) parts
theorem sz84 : sz Tryz.prog 84 = some 1 := by kernel_rfl
theorem zc84 : zeroCells Tryz.prog 84 = some [.nF] := by kernel_rfl
theorem rd84 (cs : List V) (o : Nat) : Q2 Tryz.prog 84 cs o = cs[o]? := X7 Tryz.underlying84 sz84 rfl cs o
theorem sz87 : sz Tryz.prog 87 = some 1 := by kernel_rfl
theorem zc87 : zeroCells Tryz.prog 87 = some [.nF] := by kernel_rfl
theorem rd87 (cs : List V) (o : Nat) : Q2 Tryz.prog 87 cs o = cs[o]? := X7 Tryz.underlying87 sz87 rfl cs o
theorem sz125 : sz Tryz.prog 125 = some 1 := by kernel_rfl
theorem zc125 : zeroCells Tryz.prog 125 = some [.nF] := by kernel_rfl
theorem rd125 (cs : List V) (o : Nat) : Q2 Tryz.prog 125 cs o = cs[o]? := X7 Tryz.underlying125 sz125 rfl cs o
theorem sz130 : sz Tryz.prog 130 = some 1 := by kernel_rfl
theorem zc130 : zeroCells Tryz.prog 130 = some [.nF] := by kernel_rfl
theorem rd130 (cs : List V) (o : Nat) : Q2 Tryz.prog 130 cs o = cs[o]? := X7 Tryz.underlying130 sz130 rfl cs o
theorem sz133 : sz Tryz.prog 133 = some 1 := by kernel_rfl
theorem zc133 : zeroCells Tryz.prog 133 = some [.nM] := by kernel_rfl
theorem rd133 (cs : List V) (o : Nat) : Q2 Tryz.prog 133 cs o = cs[o]? := X7 Tryz.underlying133 sz133 rfl cs o
theorem Qmw : sz Tryz.prog 136 = some 2 := by kernel_rfl
theorem Qyh : zeroCells Tryz.prog 136 = some [.int .i64 0, .nS] := by kernel_rfl
theorem Q17 (cs : List V) (o : Nat) : Q2 Tryz.prog 136 cs o = if o + 2 <= cs.length then some (.agg ((cs.drop o).take 2)) else none := Qiw Tryz.underlying136 Qmw rfl cs o
theorem Q56 : Yo Tryz.prog 136 0 = some (0, 3) := by kernel_rfl
theorem Q68 : Yp Tryz.prog 136 0 = some (0, 3) := by kernel_rfl
theorem Q7n : Yo Tryz.prog 136 1 = some (1, 26) := by kernel_rfl
theorem Q74 : Yp Tryz.prog 136 1 = some (1, 26) := by kernel_rfl
theorem bv136 (parts : List (Nat × V)) : Xt Tryz.prog 136 parts = (Qo (fun i => ([(0, 1), (1, 1)] : List (Nat × Nat))[i]?) [.int .i64 0, .nS] parts).map .agg := Qkh Qyh (by kernel_rfl) parts
theorem sz211 : sz Tryz.prog 211 = some 1 := by kernel_rfl
theorem zc211 : zeroCells Tryz.prog 211 = some [.int .u64 0] := by kernel_rfl
theorem rd211 (cs : List V) (o : Nat) : Q2 Tryz.prog 211 cs o = cs[o]? := X7 Tryz.underlying211 sz211 rfl cs o
theorem sz249 : sz Tryz.prog 249 = some 4 := by kernel_rfl
theorem zc249 : zeroCells Tryz.prog 249 = some [.int .u32 0, .int .u32 0, .int .u32 0, .int .u32 0] := by kernel_rfl
theorem rd249 (cs : List V) (o : Nat) : Q2 Tryz.prog 249 cs o = if o + 4 <= cs.length then some (.agg ((cs.drop o).take 4)) else none := Qiw Tryz.underlying249 sz249 rfl cs o
theorem sz294 : sz Tryz.prog 294 = some 3 := by kernel_rfl
theorem zc294 : zeroCells Tryz.prog 294 = some [.int .i64 0, .int .i64 0, .int .i64 0] := by kernel_rfl
theorem rd294 (cs : List V) (o : Nat) : Q2 Tryz.prog 294 cs o = if o + 3 <= cs.length then some (.agg ((cs.drop o).take 3)) else none := Qiw Tryz.underlying294 sz294 rfl cs o
theorem Q7b : Yo Tryz.prog 294 0 = some (0, 3) := by kernel_rfl
theorem Q7z : Yp Tryz.prog 294 0 = some (0, 3) := by kernel_rfl
theorem Q63 : Yo Tryz.prog 294 1 = some (1, 3) := by kernel_rfl
theorem Q64 : Yp Tryz.prog 294 1 = some (1, 3) := by kernel_rfl
theorem Q6m : Yo Tryz.prog 294 2 = some (2, 3) := by kernel_rfl
theorem Q7o : Yp Tryz.prog 294 2 = some (2, 3) := by kernel_rfl
theorem bv294 (parts : List (Nat × V)) : Xt Tryz.prog 294 parts = (Qo (fun i => ([(0, 1), (1, 1), (2, 1)] : List (Nat × Nat))[i]?) [.int .i64 0, .int .i64 0, .int .i64 0] parts).map .agg := Qkh zc294 (by kernel_rfl) parts
theorem sz342 : sz Tryz.prog 342 = some 1 := by kernel_rfl
theorem zc342 : zeroCells Tryz.prog 342 = some [.int .u64 0] := by kernel_rfl
theorem rd342 (cs : List V) (o : Nat) : Q2 Tryz.prog 342 cs o = cs[o]? := X7 Tryz.underlying342 sz342 rfl cs o
abbrev ta := ai @sz3 <| ai @zc3 <| ai @rd3 <| ai @sz4 <| ai @zc4 <| ai @rd4 <| ai @sz5 <| ai @zc5 <| ai @rd5 <| ai @sz9 <| ai @zc9 <| ai @rd9 <| ai @ln9 <| ai @sz22 <| ai @zc22 <| ai @rd22 <| ai @ln22 <| ai @lnn22 <| ai @sz23 <| ai @zc23 <| ai @rd23 <| ai @ln23 <| ai @lnn23 <| ai @sz25 <| ai @zc25 <| ai @rd25 <| ai @fo25_0 <| ai @ff25_0 <| ai @fo25_1 <| ai @ff25_1 <| ai @bv25 <| ai @Qje <| ai @zc26 <| ai @rd26 <| ai @ln26 <| ai @lnn26 <| ai @Qsd <| ai @zc27 <| ai @rd27 <| ai @sz29 <| ai @zc29 <| ai @rd29 <| ai @fo29_0 <| ai @ff29_0 <| ai @fo29_1 <| ai @ff29_1 <| ai @fo29_2 <| ai @ff29_2 <| ai @fo29_3 <| ai @ff29_3 <| ai @bv29 <| ai @sz31 <| ai @zc31 <| ai @rd31 <| ai @fo31_0 <| ai @ff31_0 <| ai @fo31_1 <| ai @ff31_1 <| ai @fo31_2 <| ai @ff31_2 <| ai @fo31_3 <| ai @ff31_3 <| ai @fo31_4 <| ai @ff31_4 <| ai @bv31 <| ai @sz32 <| ai @zc32 <| ai @rd32 <| ai @ln32 <| ai @lnn32 <| ai @sz33 <| ai @zc33 <| ai @Qpk <| ai @ln33 <| ai @lnn33 <| ai @sz34 <| ai @zc34 <| ai @Qva <| ai @ln34 <| ai @lnn34 <| ai @sz36 <| ai @zc36 <| ai @rd36 <| ai @fo36_0 <| ai @ff36_0 <| ai @fo36_1 <| ai @ff36_1 <| ai @fo36_2 <| ai @ff36_2 <| ai @fo36_3 <| ai @ff36_3 <| ai @fo36_4 <| ai @ff36_4 <| ai @fo36_5 <| ai @ff36_5 <| ai @fo36_6 <| ai @ff36_6 <| ai @fo36_7 <| ai @ff36_7 <| ai @fo36_8 <| ai @ff36_8 <| ai @fo36_9 <| ai @ff36_9 <| ai @Q5u <| ai @Q5o <| ai @bv36 <| ai @sz44 <| ai @zc44 <| ai @rd44 <| ai @sz75 <| ai @zc75 <| ai @rd75 <| ai @fo75_0 <| ai @ff75_0 <| ai @fo75_1 <| ai @ff75_1 <| ai @fo75_2 <| ai @ff75_2 <| ai @fo75_3 <| ai @ff75_3 <| ai @fo75_4 <| ai @ff75_4 <| ai @fo75_5 <| ai @ff75_5 <| ai @fo75_6 <| ai @ff75_6 <| ai @fo75_7 <| ai @ff75_7 <| ai @bv75 <| ai @sz76 <| ai @zc76 <| ai @rd76 <| ai @sz78 <| ai @zc78 <| ai @rd78 <| ai @ln78 <| ai @lnn78 <| ai @Qsa <| ai @zc80 <| ai @rd80 <| ai @fo80_0 <| ai @ff80_0 <| ai @fo80_1 <| ai @ff80_1 <| ai @fo80_2 <| ai @ff80_2 <| ai @fo80_3 <| ai @ff80_3 <| ai @fo80_4 <| ai @ff80_4 <| ai @fo80_5 <| ai @ff80_5 <| ai @fo80_6 <| ai @ff80_6 <| ai @fo80_7 <| ai @ff80_7 <| ai @fo80_8 <| ai @ff80_8 <| ai @bv80 <| ai @sz84 <| ai @zc84 <| ai @rd84 <| ai @sz87 <| ai @zc87 <| ai @rd87 <| ai @sz125 <| ai @zc125 <| ai @rd125 <| ai @sz130 <| ai @zc130 <| ai @rd130 <| ai @sz133 <| ai @zc133 <| ai @rd133 <| ai @Qmw <| ai @Qyh <| ai @Q17 <| ai @Q56 <| ai @Q68 <| ai @Q7n <| ai @Q74 <| ai @bv136 <| ai @sz211 <| ai @zc211 <| ai @rd211 <| ai @sz249 <| ai @zc249 <| ai @rd249 <| ai @sz294 <| ai @zc294 <| ai @rd294 <| ai @Q7b <| ai @Q7z <| ai @Q63 <| ai @Q64 <| ai @Q6m <| ai @Q7o <| ai @bv294 <| ai @sz342 <| ai @zc342 <| @rd342
def Q3z (v1 v34 v35 v36 : V) : List V := [.bad, v1, .bad, .bad, .bad, .bad, .bad, .bad, .bad, .bad, .bad, .bad, .bad, .bad, .bad, .bad, .bad, .bad, .bad, .bad, .bad, .bad, .bad, .bad, .bad, .bad, .bad, .bad, .bad, .bad, .bad, .bad, .bad, .bad, v34, v35, v36, .bad, .bad, .bad, .bad, .bad, .bad, .bad, .bad, .bad, .bad, .bad, .bad, .bad, .bad, .bad, .bad, .bad, .bad, .bad, .bad, .bad, .bad, .bad, .bad, .bad, .bad, .bad, .bad, .bad, .bad, .bad, .bad, .bad, .bad, .bad, .bad, .bad, .bad, .bad, .bad, .bad, .bad, .bad, .bad, .bad, .bad, .bad, .bad, .bad, .bad, .bad, .bad, .bad, .bad, .bad, .bad, .bad, .bad, .bad, .bad, .bad, .bad, .bad, .bad, .bad, .bad, .bad, .bad, .bad, .bad, .bad, .bad, .bad, .bad, .bad, .bad, .bad, .bad, .bad, .bad, .bad, .bad, .bad, .bad, .bad, .bad, .bad, .bad, .bad, .bad, .bad, .bad, .bad, .bad, .bad, .bad, .bad, .bad, .bad, .bad, .bad, .bad, .bad, .bad, .bad, .bad, .bad, .bad, .bad, .bad, .bad, .bad, .bad, .bad, .bad, .bad, .bad]
def Qs4 (v1 v108 v109 v110 : V) : List V := [.bad, v1, .bad, .bad, .bad, .bad, .bad, .bad, .bad, .bad, .bad, .bad, .bad, .bad, .bad, .bad, .bad, .bad, .bad, .bad, .bad, .bad, .bad, .bad, .bad, .bad, .bad, .bad, .bad, .bad, .bad, .bad, .bad, .bad, .bad, .bad, .bad, .bad, .bad, .bad, .bad, .bad, .bad, .bad, .bad, .bad, .bad, .bad, .bad, .bad, .bad, .bad, .bad, .bad, .bad, .bad, .bad, .bad, .bad, .bad, .bad, .bad, .bad, .bad, .bad, .bad, .bad, .bad, .bad, .bad, .bad, .bad, .bad, .bad, .bad, .bad, .bad, .bad, .bad, .bad, .bad, .bad, .bad, .bad, .bad, .bad, .bad, .bad, .bad, .bad, .bad, .bad, .bad, .bad, .bad, .bad, .bad, .bad, .bad, .bad, .bad, .bad, .bad, .bad, .bad, .bad, .bad, .bad, v108, v109, v110, .bad, .bad, .bad, .bad, .bad, .bad, .bad, .bad, .bad, .bad, .bad, .bad, .bad, .bad, .bad, .bad, .bad, .bad, .bad, .bad, .bad, .bad, .bad, .bad, .bad, .bad, .bad, .bad, .bad, .bad, .bad, .bad, .bad, .bad, .bad, .bad, .bad, .bad, .bad, .bad, .bad, .bad, .bad]
def Qv9 (v0 v10 v11 v12 : V) : List V := [v0, .bad, .bad, .bad, .bad, .bad, .bad, .bad, .bad, .bad, v10, v11, v12, .bad, .bad, .bad, .bad, .bad, .bad, .bad, .bad, .bad, .bad, .bad, .bad, .bad, .bad, .bad, .bad, .bad, .bad, .bad, .bad, .bad, .bad, .bad, .bad, .bad, .bad, .bad, .bad, .bad, .bad, .bad, .bad, .bad, .bad, .bad, .bad, .bad, .bad, .bad, .bad, .bad, .bad, .bad, .bad, .bad, .bad, .bad, .bad, .bad, .bad, .bad, .bad, .bad, .bad, .bad, .bad, .bad, .bad, .bad, .bad, .bad, .bad, .bad, .bad, .bad, .bad, .bad, .bad, .bad, .bad, .bad, .bad, .bad, .bad, .bad, .bad]
def Qq0 (v0 v51 v52 v53 : V) : List V := [v0, .bad, .bad, .bad, .bad, .bad, .bad, .bad, .bad, .bad, .bad, .bad, .bad, .bad, .bad, .bad, .bad, .bad, .bad, .bad, .bad, .bad, .bad, .bad, .bad, .bad, .bad, .bad, .bad, .bad, .bad, .bad, .bad, .bad, .bad, .bad, .bad, .bad, .bad, .bad, .bad, .bad, .bad, .bad, .bad, .bad, .bad, .bad, .bad, .bad, .bad, v51, v52, v53, .bad, .bad, .bad, .bad, .bad, .bad, .bad, .bad, .bad, .bad, .bad, .bad, .bad, .bad, .bad, .bad, .bad, .bad, .bad, .bad, .bad, .bad, .bad, .bad, .bad, .bad, .bad, .bad, .bad, .bad, .bad, .bad, .bad, .bad, .bad]
def Qi7 (v2 v4 v16 : V) : List V := [.bad, .bad, v2, .bad, v4, .bad, .bad, .bad, .bad, .bad, .bad, .bad, .bad, .bad, .bad, .bad, v16, .bad, .bad, .bad, .bad, .bad, .bad, .bad, .bad, .bad, .bad, .bad, .bad, .bad, .bad]
def Qrd (v1 v3 v19 v20 v21 : V) : List V := [.bad, v1, .bad, v3, .bad, .bad, .bad, .bad, .bad, .bad, .bad, .bad, .bad, .bad, .bad, .bad, .bad, .bad, .bad, v19, v20, v21, .bad, .bad, .bad, .bad, .bad, .bad, .bad, .bad, .bad, .bad, .bad, .bad, .bad, .bad, .bad, .bad, .bad, .bad, .bad, .bad, .bad, .bad, .bad, .bad, .bad, .bad, .bad, .bad, .bad, .bad, .bad]
def Qnr (v3 v33 v34 v35 : V) : List V := [.bad, .bad, .bad, v3, .bad, .bad, .bad, .bad, .bad, .bad, .bad, .bad, .bad, .bad, .bad, .bad, .bad, .bad, .bad, .bad, .bad, .bad, .bad, .bad, .bad, .bad, .bad, .bad, .bad, .bad, .bad, .bad, .bad, v33, v34, v35, .bad, .bad, .bad, .bad, .bad, .bad, .bad, .bad, .bad, .bad, .bad, .bad, .bad, .bad, .bad, .bad, .bad]
def Qww (v0 v8 v9 v10 : V) : List V := [v0, .bad, .bad, .bad, .bad, .bad, .bad, .bad, v8, v9, v10, .bad, .bad, .bad, .bad, .bad, .bad, .bad, .bad, .bad, .bad, .bad, .bad, .bad, .bad, .bad, .bad, .bad, .bad, .bad, .bad, .bad, .bad, .bad, .bad, .bad, .bad, .bad]
def Q28 (v0 v1 v2 v8 v9 v10 : V) : List V := [v0, v1, v2, .bad, .bad, .bad, .bad, .bad, v8, v9, v10, .bad, .bad, .bad, .bad, .bad, .bad, .bad, .bad, .bad, .bad, .bad, .bad, .bad, .bad, .bad, .bad, .bad, .bad, .bad, .bad, .bad, .bad, .bad, .bad, .bad, .bad, .bad, .bad, .bad, .bad, .bad, .bad, .bad, .bad, .bad, .bad, .bad, .bad]
def Q3w (v3 v6 v7 v8 : V) : List V := [.bad, .bad, .bad, v3, .bad, .bad, v6, v7, v8, .bad, .bad, .bad, .bad, .bad, .bad, .bad, .bad, .bad]
def Q26 (v0 v1 v7 v8 : V) : List V := [v0, v1, .bad, .bad, .bad, .bad, .bad, v7, v8, .bad, .bad, .bad, .bad, .bad, .bad, .bad, .bad, .bad, .bad]
def Qw1 (v1 v5 v10 v11 v12 : V) : List V := [.bad, v1, .bad, .bad, .bad, v5, .bad, .bad, .bad, .bad, v10, v11, v12, .bad, .bad, .bad, .bad, .bad, .bad, .bad, .bad, .bad, .bad, .bad, .bad, .bad]
def Q2z (v1 v2 v3 v11 v12 v13 : V) : List V := [.bad, v1, v2, v3, .bad, .bad, .bad, .bad, .bad, .bad, .bad, v11, v12, v13, .bad, .bad, .bad, .bad, .bad, .bad, .bad, .bad, .bad, .bad, .bad, .bad, .bad, .bad, .bad, .bad, .bad, .bad, .bad, .bad, .bad, .bad, .bad, .bad, .bad, .bad, .bad, .bad, .bad, .bad, .bad, .bad, .bad, .bad, .bad, .bad, .bad, .bad, .bad, .bad, .bad, .bad, .bad, .bad, .bad, .bad, .bad]
def Q5b (v1 v2 v27 v28 v29 : V) : List V := [.bad, v1, v2, .bad, .bad, .bad, .bad, .bad, .bad, .bad, .bad, .bad, .bad, .bad, .bad, .bad, .bad, .bad, .bad, .bad, .bad, .bad, .bad, .bad, .bad, .bad, .bad, v27, v28, v29, .bad, .bad, .bad, .bad, .bad, .bad, .bad, .bad, .bad, .bad, .bad, .bad, .bad, .bad, .bad, .bad, .bad, .bad, .bad, .bad, .bad, .bad, .bad, .bad, .bad, .bad, .bad, .bad, .bad, .bad, .bad]
def Qr5 (v2 v43 v44 v45 : V) : List V := [.bad, .bad, v2, .bad, .bad, .bad, .bad, .bad, .bad, .bad, .bad, .bad, .bad, .bad, .bad, .bad, .bad, .bad, .bad, .bad, .bad, .bad, .bad, .bad, .bad, .bad, .bad, .bad, .bad, .bad, .bad, .bad, .bad, .bad, .bad, .bad, .bad, .bad, .bad, .bad, .bad, .bad, .bad, v43, v44, v45, .bad, .bad, .bad, .bad, .bad, .bad, .bad, .bad, .bad, .bad, .bad, .bad, .bad, .bad, .bad]
def Qy3 (v0 v1 v6 : V) : List V := [v0, v1, .bad, .bad, .bad, .bad, v6, .bad, .bad, .bad, .bad, .bad, .bad, .bad, .bad, .bad, .bad, .bad, .bad, .bad, .bad, .bad, .bad, .bad, .bad, .bad, .bad, .bad, .bad, .bad, .bad, .bad, .bad]
def Qye (v3 v9 v10 : V) : List V := [.bad, .bad, .bad, v3, .bad, .bad, .bad, .bad, .bad, v9, v10, .bad, .bad, .bad, .bad, .bad, .bad, .bad, .bad, .bad, .bad, .bad, .bad, .bad]
def Qsm (v0 v3 v4 : V) : List V := [v0, .bad, .bad, v3, v4, .bad, .bad, .bad, .bad, .bad, .bad, .bad, .bad, .bad, .bad, .bad, .bad, .bad, .bad, .bad, .bad, .bad, .bad, .bad, .bad]
def Qzc (v0 v1 v7 v8 : V) : List V := [v0, v1, .bad, .bad, .bad, .bad, .bad, v7, v8, .bad, .bad, .bad, .bad, .bad, .bad, .bad, .bad, .bad, .bad]
def Qyg (v0 v2 v3 v9 v10 v11 : V) : List V := [v0, .bad, v2, v3, .bad, .bad, .bad, .bad, .bad, v9, v10, v11, .bad, .bad, .bad, .bad, .bad, .bad, .bad, .bad, .bad, .bad, .bad, .bad, .bad, .bad, .bad, .bad, .bad, .bad, .bad, .bad, .bad, .bad, .bad, .bad, .bad, .bad]
def Qso (v2 v6 v21 v22 v23 : V) : List V := [.bad, .bad, v2, .bad, .bad, .bad, v6, .bad, .bad, .bad, .bad, .bad, .bad, .bad, .bad, .bad, .bad, .bad, .bad, .bad, .bad, v21, v22, v23, .bad, .bad, .bad, .bad, .bad, .bad, .bad, .bad, .bad, .bad, .bad, .bad, .bad, .bad]
def Qyr (v0 v2 v3 v4 : V) : List V := [v0, .bad, v2, v3, v4, .bad, .bad, .bad, .bad, .bad, .bad, .bad, .bad, .bad, .bad, .bad, .bad, .bad, .bad, .bad, .bad, .bad, .bad, .bad, .bad, .bad, .bad, .bad, .bad, .bad, .bad, .bad, .bad, .bad, .bad, .bad, .bad, .bad, .bad, .bad, .bad, .bad, .bad, .bad, .bad, .bad, .bad]
def Qze (v7 v8 : V) : List V := [.bad, .bad, .bad, .bad, .bad, .bad, .bad, v7, v8, .bad, .bad, .bad, .bad, .bad, .bad, .bad, .bad, .bad, .bad, .bad, .bad, .bad, .bad, .bad, .bad, .bad, .bad, .bad, .bad, .bad, .bad, .bad, .bad, .bad, .bad, .bad, .bad, .bad, .bad, .bad, .bad, .bad, .bad, .bad, .bad, .bad, .bad, .bad]
def Qzb (v2 v4 v5 v6 : V) : List V := [.bad, .bad, v2, .bad, v4, v5, v6, .bad, .bad, .bad, .bad, .bad]
def Qzl (v0 v2 v4 v8 v9 v10 : V) : List V := [v0, .bad, v2, .bad, v4, .bad, .bad, .bad, v8, v9, v10, .bad, .bad, .bad, .bad, .bad, .bad, .bad, .bad, .bad, .bad, .bad, .bad, .bad, .bad, .bad, .bad, .bad, .bad, .bad, .bad, .bad, .bad, .bad, .bad, .bad, .bad, .bad, .bad, .bad, .bad, .bad, .bad, .bad, .bad, .bad, .bad, .bad, .bad]
def Qy6 (v0 v1 v2 v4 : V) : List V := [v0, v1, v2, .bad, v4, .bad, .bad, .bad, .bad, .bad, .bad, .bad, .bad, .bad, .bad, .bad, .bad, .bad, .bad, .bad, .bad, .bad, .bad, .bad, .bad, .bad, .bad, .bad, .bad, .bad, .bad]
def Qq5 (v0 v1 v3 : V) : List V := [v0, v1, .bad, v3, .bad, .bad, .bad, .bad, .bad, .bad, .bad, .bad, .bad, .bad, .bad, .bad, .bad, .bad, .bad]
end
end Go.Proofs.YtgnnlchhfiomgaaGreatDoor
