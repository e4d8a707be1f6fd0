/- This file holds in one the texts D00, D0, DF; each says at its head what it proves. -/
import Derived.Test.YteagpfbdmiihaaaGreatDoorT13
import Derived.Test.YteagpfbdmiihaaaGreatDoorT27
import Derived.Test.YteagpfbdmiihaaaGreatDoorChecked
set_option linter.unusedSimpArgs false
set_option linter.unusedVariables false
namespace Go.Proofs.YteagpfbdmiihaaaGreatDoor
section
open Go.AM
theorem Qu1 {α : Type} (g : α -> Bool) (l : List α) (c : Nat) : ∀ k : Nat, (∀ i, i < k -> ((l.drop (c * i)).take c).all g = true) -> (l.drop (c * k)).all g = true -> l.all g = true
 | 0, _, h => by simpa using h
 | k + 1, h1, h2 => by
   refine Qu1 g l c k (fun i hi => h1 i (by omega)) ?_
   have e : l.drop (c * k) = (l.drop (c * k)).take c ++ l.drop (c * (k + 1)) := by
    have := (Zly c (l.drop (c * k))).symm
    rw [Zl1] at this
    rw [Nat.mul_succ]; exact this
   rw [e, List.all_append, h1 k (by omega), h2]; rfl
def gD (F : Func) : Bool := match F.body with | some c => drawsC c | none => true
def gN (F : Func) : Bool := F.body.isNone || !(F.name == "runtime.NumGoroutine")
def gL (F : Func) : Bool := match F.body with | some c => decide ((Q6 c).Nodup) && flatC c | none => true
theorem dr0 : ((Tryz.prog.funcs.toList.drop (40 * 0)).take 40).all gD = true := by kernel_rfl
theorem dr1 : ((Tryz.prog.funcs.toList.drop (40 * 1)).take 40).all gD = true := by kernel_rfl
theorem dr2 : ((Tryz.prog.funcs.toList.drop (40 * 2)).take 40).all gD = true := by kernel_rfl
theorem dr3 : ((Tryz.prog.funcs.toList.drop (40 * 3)).take 40).all gD = true := by kernel_rfl
theorem dr4 : ((Tryz.prog.funcs.toList.drop (40 * 4)).take 40).all gD = true := by kernel_rfl
theorem dr5 : ((Tryz.prog.funcs.toList.drop (40 * 5)).take 40).all gD = true := by kernel_rfl
theorem dr6 : ((Tryz.prog.funcs.toList.drop (40 * 6)).take 40).all gD = true := by kernel_rfl
theorem dr7 : ((Tryz.prog.funcs.toList.drop (40 * 7)).take 40).all gD = true := by kernel_rfl
theorem dr8 : ((Tryz.prog.funcs.toList.drop (40 * 8)).take 40).all gD = true := by kernel_rfl
theorem dr9 : ((Tryz.prog.funcs.toList.drop (40 * 9)).take 40).all gD = true := by kernel_rfl
theorem dr10 : ((Tryz.prog.funcs.toList.drop (40 * 10)).take 40).all gD = true := by kernel_rfl
theorem dr11 : ((Tryz.prog.funcs.toList.drop (40 * 11)).take 40).all gD = true := by kernel_rfl
theorem dr12 : ((Tryz.prog.funcs.toList.drop (40 * 12)).take 40).all gD = true := by kernel_rfl
theorem drE : (Tryz.prog.funcs.toList.drop (40 * 13)).all gD = true := by kernel_rfl
theorem Q1i : Tryz.prog.funcs.all gD = true := by
 rw [<- Array.all_toList]
 refine Qu1 gD _ 40 13 ?_ drE
 intro i hi
 match i, hi with
 | 0, _ => exact dr0
 | 1, _ => exact dr1
 | 2, _ => exact dr2
 | 3, _ => exact dr3
 | 4, _ => exact dr4
 | 5, _ => exact dr5
 | 6, _ => exact dr6
 | 7, _ => exact dr7
 | 8, _ => exact dr8
 | 9, _ => exact dr9
 | 10, _ => exact dr10
 | 11, _ => exact dr11
 | 12, _ => exact dr12
 | n + 13, h => omega
theorem Q7b : Tryz.prog.funcs.all gN = true := by kernel_rfl
theorem Q06 : Tryz.prog.funcs.all gL = true := by kernel_rfl
end
section
open Go.AM
def inlD : List Nat := [95, 77, 217, 119, 47, 467, 39, 76, 40, 71, 130, 69, 70, 276]
def Qz : Pol where
 pure := fun f g => !inlD.contains g || (g == 119 && f == 292)
 mt := fun f s => [(95, 32), (46, 5), (46, 7), (47, 5), (47, 7)].contains (f, s)
 keep := fun f r => match f, r with
  | 65, 3 => some ([1, 3, 19, 20, 21], [])
  | 65, 8 => some ([3, 33, 34, 35], [7])
  | 77, 3 => some ([1, 2, 3, 11, 12, 13], [])
  | 77, 9 => some ([1, 2, 27, 28, 29], [])
  | 77, 14 => some ([2, 43, 44, 45], [9])
  | 119, 3 => some ([2, 4, 16], [6])
  | 95, 3 => some ([0, 2, 3, 9, 10, 11], [])
  | 95, 9 => some ([2, 6, 21, 22, 23], [32])
  | 96, 8 => some ([7, 8], [])
  | 217, 3 => some ([1, 5, 10, 11, 12], [7])
  | 127, 5 => some ([0, 3, 4], [])
  | 390, 2 => some ([2, 4, 5, 6], [])
  | 293, 3 => some ([0, 2, 3, 4], [])
  | 214, 1 => some ([0, 1, 2, 4], [])
  | 391, 1 => some ([0, 1, 3], [])
  | 213, 4 => some ([0, 1, 6], [])
  | 225, 3 => some ([3, 9, 10], [])
  | 18, 4 => some ([1, 34, 35, 36], [])
  | 18, 12 => some ([1, 108, 109, 110], [6])
  | 130, 2 => some ([0, 1, 7, 8], [])
  | 76, 2 => some ([0, 1, 7, 8], [])
  | 34, 4 => some ([0, 10, 11, 12], [4])
  | 34, 10 => some ([0, 51, 52, 53], [4, 6])
  | 419, 3 => some ([0, 2, 4, 8, 9, 10], [])
  | 72, 3 => some ([0, 1, 2, 8, 9, 10], [])
  | 67, 4 => some ([0, 8, 9, 10], [4])
  | 75, 3 => some ([3, 6, 7, 8], [])
  | 387, 2 => some ([3, 4, 5, 8, 9], [25, 26])
  | _, _ => none
 thin := fun _ g => g == 95
 lift := fun _ g => g == 47
 look := fun _ g => g == 70
 prim := fun f => if f = 222 then some Ki else none
theorem xCnt : Kh Tryz.prog 222 Extern.BytealgCount.count := ⟨Tryz.f222, Tryz.func222, by kernel_rfl, by kernel_rfl, by kernel_rfl, by kernel_rfl⟩
theorem okD : Okay Tryz.prog Qz where
 mixed := Tryz.checked.mixed
 draws := fun f F c hF hc => by
  have := Zms.1 Q1i F (Znk hF)
  unfold gD at this
  rwa [hc] at this
 loops := fun f F c hF hc => by
  have := Zms.1 Q06 F (Znk hF)
  unfold gL at this
  rw [hc] at this
  simpa using this
 num := fun f F hF hb => by
  have := Zms.1 Q7b F (Znk hF)
  unfold gN at this
  cases hn : F.body with
  | none => rw [hn] at hb; cases hb
  | some c => rw [hn] at this; simpa using this
 prim := fun f g hg B F H E fr dst args cargs v x S hlt hr h => by
  by_cases hf : f = 222
  . subst hf
    have e : Qz.prim 222 = some Ki := rfl
    rw [e] at hg
    cases hg
    exact sound_count xCnt S hr h
  . have e : Qz.prim f = none := if_neg hf
    rw [e] at hg
    cases hg
end
section
open Go.AM
theorem sz3 : sz Tryz.prog 3 = some 1 := by kernel_rfl
theorem zc3 : zeroCells Tryz.prog 3 = some [.int .i64 0] := by kernel_rfl
theorem rd3 (cs : List V) (o : Nat) : Q0 Tryz.prog 3 cs o = cs[o]? := X7 Tryz.underlying3 sz3 rfl cs o
theorem sz4 : sz Tryz.prog 4 = some 1 := by kernel_rfl
theorem zc4 : zeroCells Tryz.prog 4 = some [.bool false] := by kernel_rfl
theorem rd4 (cs : List V) (o : Nat) : Q0 Tryz.prog 4 cs o = cs[o]? := X7 Tryz.underlying4 sz4 rfl cs o
theorem sz5 : sz Tryz.prog 5 = some 1 := by kernel_rfl
theorem zc5 : zeroCells Tryz.prog 5 = some [.int .u8 0] := by kernel_rfl
theorem rd5 (cs : List V) (o : Nat) : Q0 Tryz.prog 5 cs o = cs[o]? := X7 Tryz.underlying5 sz5 rfl cs o
theorem sz9 : sz Tryz.prog 9 = some 1 := by kernel_rfl
theorem zc9 : zeroCells Tryz.prog 9 = some [.str []] := by kernel_rfl
theorem rd9 (cs : List V) (o : Nat) : Q0 Tryz.prog 9 cs o = cs[o]? := X7 Tryz.underlying9 sz9 rfl cs o
theorem ln9 (g : Get) (s : List UInt8) : Ka Tryz.prog g 9 (.str s) = some (.int .i64 s.length) := ln_str Tryz.underlying9 s
theorem Qjk : sz Tryz.prog 25 = some 1 := by kernel_rfl
theorem zc25 : zeroCells Tryz.prog 25 = some [.nS] := by kernel_rfl
theorem rd25 (cs : List V) (o : Nat) : Q0 Tryz.prog 25 cs o = cs[o]? := X7 Tryz.underlying25 Qjk rfl cs o
theorem ln25 (g : Get) (cs : List V) (len : Nat) (full : Bool) : Ka Tryz.prog g 25 (.iS cs len full) = some (.int .i64 len) := Bz Tryz.underlying25 cs len full
theorem lnn25 (g : Get) : Ka Tryz.prog g 25 .nS = some (.int .i64 0) := Qel Tryz.underlying25
theorem sz39 : sz Tryz.prog 39 = some 1 := by kernel_rfl
theorem zc39 : zeroCells Tryz.prog 39 = some [.int .i64 0] := by kernel_rfl
theorem rd39 (cs : List V) (o : Nat) : Q0 Tryz.prog 39 cs o = cs[o]? := X7 Tryz.underlying39 sz39 rfl cs o
theorem sz46 : sz Tryz.prog 46 = some 1 := by kernel_rfl
theorem zc46 : zeroCells Tryz.prog 46 = some [.nS] := by kernel_rfl
theorem rd46 (cs : List V) (o : Nat) : Q0 Tryz.prog 46 cs o = cs[o]? := X7 Tryz.underlying46 sz46 rfl cs o
theorem ln46 (g : Get) (cs : List V) (len : Nat) (full : Bool) : Ka Tryz.prog g 46 (.iS cs len full) = some (.int .i64 len) := Bz Tryz.underlying46 cs len full
theorem lnn46 (g : Get) : Ka Tryz.prog g 46 .nS = some (.int .i64 0) := Qel Tryz.underlying46
theorem sz53 : sz Tryz.prog 53 = some 1 := by kernel_rfl
theorem zc53 : zeroCells Tryz.prog 53 = some [.nS] := by kernel_rfl
theorem rd53 (cs : List V) (o : Nat) : Q0 Tryz.prog 53 cs o = cs[o]? := X7 Tryz.underlying53 sz53 rfl cs o
theorem ln53 (g : Get) (cs : List V) (len : Nat) (full : Bool) : Ka Tryz.prog g 53 (.iS cs len full) = some (.int .i64 len) := Bz Tryz.underlying53 cs len full
theorem lnn53 (g : Get) : Ka Tryz.prog g 53 .nS = some (.int .i64 0) := Qel Tryz.underlying53
theorem sz54 : sz Tryz.prog 54 = some 1 := by kernel_rfl
theorem zc54 : zeroCells Tryz.prog 54 = some [.nS] := by kernel_rfl
theorem rd54 (cs : List V) (o : Nat) : Q0 Tryz.prog 54 cs o = cs[o]? := X7 Tryz.underlying54 sz54 rfl cs o
theorem ln54 (g : Get) (cs : List V) (len : Nat) (full : Bool) : Ka Tryz.prog g 54 (.iS cs len full) = some (.int .i64 len) := Bz Tryz.underlying54 cs len full
theorem lnn54 (g : Get) : Ka Tryz.prog g 54 .nS = some (.int .i64 0) := Qel Tryz.underlying54
theorem sz56 : sz Tryz.prog 56 = some 2 := by kernel_rfl
theorem zc56 : zeroCells Tryz.prog 56 = some [.nS, .nS] := by kernel_rfl
theorem rd56 (cs : List V) (o : Nat) : Q0 Tryz.prog 56 cs o = if o + 2 <= cs.length then some (.agg ((cs.drop o).take 2)) else none := Qfd Tryz.underlying56 sz56 rfl cs o
theorem fo56_0 : Yo Tryz.prog 56 0 = some (0, 53) := by kernel_rfl
theorem ff56_0 : Yp Tryz.prog 56 0 = some (0, 53) := by kernel_rfl
theorem fo56_1 : Yo Tryz.prog 56 1 = some (1, 54) := by kernel_rfl
theorem ff56_1 : Yp Tryz.prog 56 1 = some (1, 54) := by kernel_rfl
theorem bv56 (parts : List (Nat × V)) : Xw Tryz.prog 56 parts = (Qo (fun i => ([(0, 1), (1, 1)] : List (Nat × Nat))[i]?) [.nS, .nS] parts).map .agg := Qip zc56 (by kernel_rfl) parts
theorem Qsv : sz Tryz.prog 57 = some 1 := by kernel_rfl
theorem zc57 : zeroCells Tryz.prog 57 = some [.int .u32 0] := by kernel_rfl
theorem rd57 (cs : List V) (o : Nat) : Q0 Tryz.prog 57 cs o = cs[o]? := X7 Tryz.underlying57 Qsv rfl cs o
theorem sz59 : sz Tryz.prog 59 = some 5 := by kernel_rfl
theorem zc59 : zeroCells Tryz.prog 59 = some [.nS, .nS, .nS, .int .u32 0, .int .u32 0] := by kernel_rfl
theorem rd59 (cs : List V) (o : Nat) : Q0 Tryz.prog 59 cs o = if o + 5 <= cs.length then some (.agg ((cs.drop o).take 5)) else none := Qfd Tryz.underlying59 sz59 rfl cs o
theorem fo59_0 : Yo Tryz.prog 59 0 = some (0, 56) := by kernel_rfl
theorem ff59_0 : Yp Tryz.prog 59 0 = some (0, 56) := by kernel_rfl
theorem fo59_1 : Yo Tryz.prog 59 1 = some (2, 25) := by kernel_rfl
theorem ff59_1 : Yp Tryz.prog 59 1 = some (2, 25) := by kernel_rfl
theorem fo59_2 : Yo Tryz.prog 59 2 = some (3, 57) := by kernel_rfl
theorem ff59_2 : Yp Tryz.prog 59 2 = some (3, 57) := by kernel_rfl
theorem fo59_3 : Yo Tryz.prog 59 3 = some (4, 57) := by kernel_rfl
theorem ff59_3 : Yp Tryz.prog 59 3 = some (4, 57) := by kernel_rfl
theorem bv59 (parts : List (Nat × V)) : Xw Tryz.prog 59 parts = (Qo (fun i => ([(0, 2), (2, 1), (3, 1), (4, 1)] : List (Nat × Nat))[i]?) [.nS, .nS, .nS, .int .u32 0, .int .u32 0] parts).map .agg := Qip zc59 (by kernel_rfl) parts
theorem sz61 : sz Tryz.prog 61 = some 5 := by kernel_rfl
theorem zc61 : zeroCells Tryz.prog 61 = some [.int .i64 0, .int .u32 0, .int .u32 0, .int .u32 0, .int .u32 0] := by kernel_rfl
theorem rd61 (cs : List V) (o : Nat) : Q0 Tryz.prog 61 cs o = if o + 5 <= cs.length then some (.agg ((cs.drop o).take 5)) else none := Qfd Tryz.underlying61 sz61 rfl cs o
theorem fo61_0 : Yo Tryz.prog 61 0 = some (0, 3) := by kernel_rfl
theorem ff61_0 : Yp Tryz.prog 61 0 = some (0, 3) := by kernel_rfl
theorem fo61_1 : Yo Tryz.prog 61 1 = some (1, 57) := by kernel_rfl
theorem ff61_1 : Yp Tryz.prog 61 1 = some (1, 57) := by kernel_rfl
theorem fo61_2 : Yo Tryz.prog 61 2 = some (2, 57) := by kernel_rfl
theorem ff61_2 : Yp Tryz.prog 61 2 = some (2, 57) := by kernel_rfl
theorem fo61_3 : Yo Tryz.prog 61 3 = some (3, 57) := by kernel_rfl
theorem ff61_3 : Yp Tryz.prog 61 3 = some (3, 57) := by kernel_rfl
theorem fo61_4 : Yo Tryz.prog 61 4 = some (4, 57) := by kernel_rfl
theorem ff61_4 : Yp Tryz.prog 61 4 = some (4, 57) := by kernel_rfl
theorem bv61 (parts : List (Nat × V)) : Xw Tryz.prog 61 parts = (Qo (fun i => ([(0, 1), (1, 1), (2, 1), (3, 1), (4, 1)] : List (Nat × Nat))[i]?) [.int .i64 0, .int .u32 0, .int .u32 0, .int .u32 0, .int .u32 0] parts).map .agg := Qip zc61 (by kernel_rfl) parts
theorem sz62 : sz Tryz.prog 62 = some 1 := by kernel_rfl
theorem zc62 : zeroCells Tryz.prog 62 = some [.nS] := by kernel_rfl
theorem Qo3 (cs : List V) (o : Nat) : Q0 Tryz.prog 62 cs o = cs[o]? := X7 Tryz.underlying62 sz62 rfl cs o
theorem ln62 (g : Get) (cs : List V) (len : Nat) (full : Bool) : Ka Tryz.prog g 62 (.iS cs len full) = some (.int .i64 len) := Bz Tryz.underlying62 cs len full
theorem lnn62 (g : Get) : Ka Tryz.prog g 62 .nS = some (.int .i64 0) := Qel Tryz.underlying62
theorem sz63 : sz Tryz.prog 63 = some 1 := by kernel_rfl
theorem zc63 : zeroCells Tryz.prog 63 = some [.nS] := by kernel_rfl
theorem Qty (cs : List V) (o : Nat) : Q0 Tryz.prog 63 cs o = cs[o]? := X7 Tryz.underlying63 sz63 rfl cs o
theorem ln63 (g : Get) (cs : List V) (len : Nat) (full : Bool) : Ka Tryz.prog g 63 (.iS cs len full) = some (.int .i64 len) := Bz Tryz.underlying63 cs len full
theorem lnn63 (g : Get) : Ka Tryz.prog g 63 .nS = some (.int .i64 0) := Qel Tryz.underlying63
theorem sz65 : sz Tryz.prog 65 = some 19 := by kernel_rfl
theorem zc65 : zeroCells Tryz.prog 65 = some [.nS, .nS, .nS, .int .u32 0, .int .u32 0, .int .u32 0, .int .i64 0, .int .u32 0, .int .u32 0, .int .u32 0, .int .u32 0, .nS, .nS, .nS, .nS, .nS, .int .i64 0, .int .i64 0, .int .u32 0] := by kernel_rfl
theorem rd65 (cs : List V) (o : Nat) : Q0 Tryz.prog 65 cs o = if o + 19 <= cs.length then some (.agg ((cs.drop o).take 19)) else none := Qfd Tryz.underlying65 sz65 rfl cs o
theorem fo65_0 : Yo Tryz.prog 65 0 = some (0, 59) := by kernel_rfl
theorem ff65_0 : Yp Tryz.prog 65 0 = some (0, 59) := by kernel_rfl
theorem fo65_1 : Yo Tryz.prog 65 1 = some (5, 57) := by kernel_rfl
theorem ff65_1 : Yp Tryz.prog 65 1 = some (5, 57) := by kernel_rfl
theorem fo65_2 : Yo Tryz.prog 65 2 = some (6, 61) := by kernel_rfl
theorem ff65_2 : Yp Tryz.prog 65 2 = some (6, 61) := by kernel_rfl
theorem fo65_3 : Yo Tryz.prog 65 3 = some (11, 46) := by kernel_rfl
theorem ff65_3 : Yp Tryz.prog 65 3 = some (11, 46) := by kernel_rfl
theorem fo65_4 : Yo Tryz.prog 65 4 = some (12, 62) := by kernel_rfl
theorem ff65_4 : Yp Tryz.prog 65 4 = some (12, 62) := by kernel_rfl
theorem fo65_5 : Yo Tryz.prog 65 5 = some (13, 53) := by kernel_rfl
theorem ff65_5 : Yp Tryz.prog 65 5 = some (13, 53) := by kernel_rfl
theorem fo65_6 : Yo Tryz.prog 65 6 = some (14, 53) := by kernel_rfl
theorem ff65_6 : Yp Tryz.prog 65 6 = some (14, 53) := by kernel_rfl
theorem fo65_7 : Yo Tryz.prog 65 7 = some (15, 63) := by kernel_rfl
theorem ff65_7 : Yp Tryz.prog 65 7 = some (15, 63) := by kernel_rfl
theorem fo65_8 : Yo Tryz.prog 65 8 = some (16, 3) := by kernel_rfl
theorem ff65_8 : Yp Tryz.prog 65 8 = some (16, 3) := by kernel_rfl
theorem fo65_9 : Yo Tryz.prog 65 9 = some (17, 3) := by kernel_rfl
theorem ff65_9 : Yp Tryz.prog 65 9 = some (17, 3) := by kernel_rfl
theorem Q7k : Yo Tryz.prog 65 10 = some (18, 57) := by kernel_rfl
theorem Q68 : Yp Tryz.prog 65 10 = some (18, 57) := by kernel_rfl
theorem bv65 (parts : List (Nat × V)) : Xw Tryz.prog 65 parts = (Qo (fun i => ([(0, 5), (5, 1), (6, 5), (11, 1), (12, 1), (13, 1), (14, 1), (15, 1), (16, 1), (17, 1), (18, 1)] : List (Nat × Nat))[i]?) [.nS, .nS, .nS, .int .u32 0, .int .u32 0, .int .u32 0, .int .i64 0, .int .u32 0, .int .u32 0, .int .u32 0, .int .u32 0, .nS, .nS, .nS, .nS, .nS, .int .i64 0, .int .i64 0, .int .u32 0] parts).map .agg := Qip zc65 (by kernel_rfl) parts
theorem sz91 : sz Tryz.prog 91 = some 12 := by kernel_rfl
theorem zc91 : zeroCells Tryz.prog 91 = some [.int .i64 0, .int .i64 0, .int .i64 0, .int .u8 0, .int .i64 0, .int .i64 0, .nS, .int .i64 0, .int .u32 0, .int .u32 0, .int .u32 0, .int .u32 0] := by kernel_rfl
theorem rd91 (cs : List V) (o : Nat) : Q0 Tryz.prog 91 cs o = if o + 12 <= cs.length then some (.agg ((cs.drop o).take 12)) else none := Qfd Tryz.underlying91 sz91 rfl cs o
theorem fo91_0 : Yo Tryz.prog 91 0 = some (0, 3) := by kernel_rfl
theorem ff91_0 : Yp Tryz.prog 91 0 = some (0, 3) := by kernel_rfl
theorem fo91_1 : Yo Tryz.prog 91 1 = some (1, 3) := by kernel_rfl
theorem ff91_1 : Yp Tryz.prog 91 1 = some (1, 3) := by kernel_rfl
theorem fo91_2 : Yo Tryz.prog 91 2 = some (2, 3) := by kernel_rfl
theorem ff91_2 : Yp Tryz.prog 91 2 = some (2, 3) := by kernel_rfl
theorem fo91_3 : Yo Tryz.prog 91 3 = some (3, 5) := by kernel_rfl
theorem ff91_3 : Yp Tryz.prog 91 3 = some (3, 5) := by kernel_rfl
theorem fo91_4 : Yo Tryz.prog 91 4 = some (4, 3) := by kernel_rfl
theorem ff91_4 : Yp Tryz.prog 91 4 = some (4, 3) := by kernel_rfl
theorem fo91_5 : Yo Tryz.prog 91 5 = some (5, 3) := by kernel_rfl
theorem ff91_5 : Yp Tryz.prog 91 5 = some (5, 3) := by kernel_rfl
theorem fo91_6 : Yo Tryz.prog 91 6 = some (6, 25) := by kernel_rfl
theorem ff91_6 : Yp Tryz.prog 91 6 = some (6, 25) := by kernel_rfl
theorem fo91_7 : Yo Tryz.prog 91 7 = some (7, 61) := by kernel_rfl
theorem ff91_7 : Yp Tryz.prog 91 7 = some (7, 61) := by kernel_rfl
theorem bv91 (parts : List (Nat × V)) : Xw Tryz.prog 91 parts = (Qo (fun i => ([(0, 1), (1, 1), (2, 1), (3, 1), (4, 1), (5, 1), (6, 1), (7, 5)] : List (Nat × Nat))[i]?) [.int .i64 0, .int .i64 0, .int .i64 0, .int .u8 0, .int .i64 0, .int .i64 0, .nS, .int .i64 0, .int .u32 0, .int .u32 0, .int .u32 0, .int .u32 0] parts).map .agg := Qip zc91 (by kernel_rfl) parts
theorem sz92 : sz Tryz.prog 92 = some 1 := by kernel_rfl
theorem zc92 : zeroCells Tryz.prog 92 = some [.nP] := by kernel_rfl
theorem rd92 (cs : List V) (o : Nat) : Q0 Tryz.prog 92 cs o = cs[o]? := X7 Tryz.underlying92 sz92 rfl cs o
theorem sz94 : sz Tryz.prog 94 = some 1 := by kernel_rfl
theorem zc94 : zeroCells Tryz.prog 94 = some [.nS] := by kernel_rfl
theorem rd94 (cs : List V) (o : Nat) : Q0 Tryz.prog 94 cs o = cs[o]? := X7 Tryz.underlying94 sz94 rfl cs o
theorem ln94 (g : Get) (cs : List V) (len : Nat) (full : Bool) : Ka Tryz.prog g 94 (.iS cs len full) = some (.int .i64 len) := Bz Tryz.underlying94 cs len full
theorem lnn94 (g : Get) : Ka Tryz.prog g 94 .nS = some (.int .i64 0) := Qel Tryz.underlying94
theorem Qrw : sz Tryz.prog 96 = some 13 := by kernel_rfl
theorem zc96 : zeroCells Tryz.prog 96 = some [.int .i64 0, .int .u8 0, .int .i64 0, .int .i64 0, .int .u32 0, .int .u32 0, .int .i64 0, .int .i64 0, .int .u32 0, .int .u32 0, .int .u32 0, .int .u32 0, .nS] := by kernel_rfl
theorem rd96 (cs : List V) (o : Nat) : Q0 Tryz.prog 96 cs o = if o + 13 <= cs.length then some (.agg ((cs.drop o).take 13)) else none := Qfd Tryz.underlying96 Qrw rfl cs o
theorem fo96_0 : Yo Tryz.prog 96 0 = some (0, 3) := by kernel_rfl
theorem ff96_0 : Yp Tryz.prog 96 0 = some (0, 3) := by kernel_rfl
theorem fo96_1 : Yo Tryz.prog 96 1 = some (1, 5) := by kernel_rfl
theorem ff96_1 : Yp Tryz.prog 96 1 = some (1, 5) := by kernel_rfl
theorem fo96_2 : Yo Tryz.prog 96 2 = some (2, 3) := by kernel_rfl
theorem ff96_2 : Yp Tryz.prog 96 2 = some (2, 3) := by kernel_rfl
theorem fo96_3 : Yo Tryz.prog 96 3 = some (3, 3) := by kernel_rfl
theorem ff96_3 : Yp Tryz.prog 96 3 = some (3, 3) := by kernel_rfl
theorem fo96_4 : Yo Tryz.prog 96 4 = some (4, 57) := by kernel_rfl
theorem ff96_4 : Yp Tryz.prog 96 4 = some (4, 57) := by kernel_rfl
theorem fo96_5 : Yo Tryz.prog 96 5 = some (5, 57) := by kernel_rfl
theorem ff96_5 : Yp Tryz.prog 96 5 = some (5, 57) := by kernel_rfl
theorem fo96_6 : Yo Tryz.prog 96 6 = some (6, 3) := by kernel_rfl
theorem ff96_6 : Yp Tryz.prog 96 6 = some (6, 3) := by kernel_rfl
theorem fo96_7 : Yo Tryz.prog 96 7 = some (7, 61) := by kernel_rfl
theorem ff96_7 : Yp Tryz.prog 96 7 = some (7, 61) := by kernel_rfl
theorem fo96_8 : Yo Tryz.prog 96 8 = some (12, 94) := by kernel_rfl
theorem ff96_8 : Yp Tryz.prog 96 8 = some (12, 94) := by kernel_rfl
theorem bv96 (parts : List (Nat × V)) : Xw Tryz.prog 96 parts = (Qo (fun i => ([(0, 1), (1, 1), (2, 1), (3, 1), (4, 1), (5, 1), (6, 1), (7, 5), (12, 1)] : List (Nat × Nat))[i]?) [.int .i64 0, .int .u8 0, .int .i64 0, .int .i64 0, .int .u32 0, .int .u32 0, .int .i64 0, .int .i64 0, .int .u32 0, .int .u32 0, .int .u32 0, .int .u32 0, .nS] parts).map .agg := Qip zc96 (by kernel_rfl) parts
theorem sz100 : sz Tryz.prog 100 = some 1 := by kernel_rfl
theorem zc100 : zeroCells Tryz.prog 100 = some [.nF] := by kernel_rfl
theorem rd100 (cs : List V) (o : Nat) : Q0 Tryz.prog 100 cs o = cs[o]? := X7 Tryz.underlying100 sz100 rfl cs o
theorem sz122 : sz Tryz.prog 122 = some 1 := by kernel_rfl
theorem zc122 : zeroCells Tryz.prog 122 = some [.nF] := by kernel_rfl
theorem rd122 (cs : List V) (o : Nat) : Q0 Tryz.prog 122 cs o = cs[o]? := X7 Tryz.underlying122 sz122 rfl cs o
theorem sz135 : sz Tryz.prog 135 = some 1 := by kernel_rfl
theorem zc135 : zeroCells Tryz.prog 135 = some [.nF] := by kernel_rfl
theorem rd135 (cs : List V) (o : Nat) : Q0 Tryz.prog 135 cs o = cs[o]? := X7 Tryz.underlying135 sz135 rfl cs o
theorem sz140 : sz Tryz.prog 140 = some 1 := by kernel_rfl
theorem zc140 : zeroCells Tryz.prog 140 = some [.nF] := by kernel_rfl
theorem rd140 (cs : List V) (o : Nat) : Q0 Tryz.prog 140 cs o = cs[o]? := X7 Tryz.underlying140 sz140 rfl cs o
theorem sz206 : sz Tryz.prog 206 = some 1 := by kernel_rfl
theorem zc206 : zeroCells Tryz.prog 206 = some [.nF] := by kernel_rfl
theorem rd206 (cs : List V) (o : Nat) : Q0 Tryz.prog 206 cs o = cs[o]? := X7 Tryz.underlying206 sz206 rfl cs o
theorem Qnk : sz Tryz.prog 213 = some 2 := by kernel_rfl
theorem Qzc : zeroCells Tryz.prog 213 = some [.int .i64 0, .nS] := by kernel_rfl
theorem Q2o (cs : List V) (o : Nat) : Q0 Tryz.prog 213 cs o = if o + 2 <= cs.length then some (.agg ((cs.drop o).take 2)) else none := Qfd Tryz.underlying213 Qnk rfl cs o
theorem Q64 : Yo Tryz.prog 213 0 = some (0, 3) := by kernel_rfl
theorem Q6r : Yp Tryz.prog 213 0 = some (0, 3) := by kernel_rfl
theorem Q7d : Yo Tryz.prog 213 1 = some (1, 25) := by kernel_rfl
theorem Q71 : Yp Tryz.prog 213 1 = some (1, 25) := by kernel_rfl
theorem bv213 (parts : List (Nat × V)) : Xw Tryz.prog 213 parts = (Qo (fun i => ([(0, 1), (1, 1)] : List (Nat × Nat))[i]?) [.int .i64 0, .nS] parts).map .agg := Qip Qzc (by kernel_rfl) parts
theorem sz218 : sz Tryz.prog 218 = some 1 := by kernel_rfl
theorem zc218 : zeroCells Tryz.prog 218 = some [.int .u64 0] := by kernel_rfl
theorem rd218 (cs : List V) (o : Nat) : Q0 Tryz.prog 218 cs o = cs[o]? := X7 Tryz.underlying218 sz218 rfl cs o
theorem sz291 : sz Tryz.prog 291 = some 1 := by kernel_rfl
theorem zc291 : zeroCells Tryz.prog 291 = some [.nM] := by kernel_rfl
theorem rd291 (cs : List V) (o : Nat) : Q0 Tryz.prog 291 cs o = cs[o]? := X7 Tryz.underlying291 sz291 rfl cs o
theorem sz363 : sz Tryz.prog 363 = some 4 := by kernel_rfl
theorem zc363 : zeroCells Tryz.prog 363 = some [.int .u32 0, .int .u32 0, .int .u32 0, .int .u32 0] := by kernel_rfl
theorem rd363 (cs : List V) (o : Nat) : Q0 Tryz.prog 363 cs o = if o + 4 <= cs.length then some (.agg ((cs.drop o).take 4)) else none := Qfd Tryz.underlying363 sz363 rfl cs o
theorem sz372 : sz Tryz.prog 372 = some 1 := by kernel_rfl
theorem zc372 : zeroCells Tryz.prog 372 = some [.int .u64 0] := by kernel_rfl
theorem rd372 (cs : List V) (o : Nat) : Q0 Tryz.prog 372 cs o = cs[o]? := X7 Tryz.underlying372 sz372 rfl cs o
theorem sz429 : sz Tryz.prog 429 = some 3 := by kernel_rfl
theorem zc429 : zeroCells Tryz.prog 429 = some [.int .i64 0, .int .i64 0, .int .i64 0] := by kernel_rfl
theorem rd429 (cs : List V) (o : Nat) : Q0 Tryz.prog 429 cs o = if o + 3 <= cs.length then some (.agg ((cs.drop o).take 3)) else none := Qfd Tryz.underlying429 sz429 rfl cs o
theorem Q77 : Yo Tryz.prog 429 0 = some (0, 3) := by kernel_rfl
theorem Q8z : Yp Tryz.prog 429 0 = some (0, 3) := by kernel_rfl
theorem Q6m : Yo Tryz.prog 429 1 = some (1, 3) := by kernel_rfl
theorem Q7t : Yp Tryz.prog 429 1 = some (1, 3) := by kernel_rfl
theorem Q8y : Yo Tryz.prog 429 2 = some (2, 3) := by kernel_rfl
theorem Q8k : Yp Tryz.prog 429 2 = some (2, 3) := by kernel_rfl
theorem bv429 (parts : List (Nat × V)) : Xw Tryz.prog 429 parts = (Qo (fun i => ([(0, 1), (1, 1), (2, 1)] : List (Nat × Nat))[i]?) [.int .i64 0, .int .i64 0, .int .i64 0] parts).map .agg := Qip zc429 (by kernel_rfl) parts
theorem sz466 : sz Tryz.prog 466 = some 2 := by kernel_rfl
theorem zc466 : zeroCells Tryz.prog 466 = some [.int .i64 0, .int .i64 0] := by kernel_rfl
theorem rd466 (cs : List V) (o : Nat) : Q0 Tryz.prog 466 cs o = if o + 2 <= cs.length then some (.agg ((cs.drop o).take 2)) else none := Qfd Tryz.underlying466 sz466 rfl cs o
theorem Q6n : Yo Tryz.prog 466 0 = some (0, 3) := by kernel_rfl
theorem Q6i : Yp Tryz.prog 466 0 = some (0, 3) := by kernel_rfl
theorem Q7q : Yo Tryz.prog 466 1 = some (1, 3) := by kernel_rfl
theorem Q7v : Yp Tryz.prog 466 1 = some (1, 3) := by kernel_rfl
theorem bv466 (parts : List (Nat × V)) : Xw Tryz.prog 466 parts = (Qo (fun i => ([(0, 1), (1, 1)] : List (Nat × Nat))[i]?) [.int .i64 0, .int .i64 0] parts).map .agg := Qip zc466 (by kernel_rfl) parts
theorem sz467 : sz Tryz.prog 467 = some 16 := by kernel_rfl
theorem zc467 : zeroCells Tryz.prog 467 = some [.int .u8 0, .int .u8 0, .int .u8 0, .int .u8 0, .int .u8 0, .int .u8 0, .int .u8 0, .int .u8 0, .int .u8 0, .int .u8 0, .int .u8 0, .int .u8 0, .int .u8 0, .int .u8 0, .int .u8 0, .int .u8 0] := by kernel_rfl
theorem rd467 (cs : List V) (o : Nat) : Q0 Tryz.prog 467 cs o = if o + 16 <= cs.length then some (.agg ((cs.drop o).take 16)) else none := Qfd Tryz.underlying467 sz467 rfl cs o
abbrev ta := ai @sz3 <| ai @zc3 <| ai @rd3 <| ai @sz4 <| ai @zc4 <| ai @rd4 <| ai @sz5 <| ai @zc5 <| ai @rd5 <| ai @sz9 <| ai @zc9 <| ai @rd9 <| ai @ln9 <| ai @Qjk <| ai @zc25 <| ai @rd25 <| ai @ln25 <| ai @lnn25 <| ai @sz39 <| ai @zc39 <| ai @rd39 <| ai @sz46 <| ai @zc46 <| ai @rd46 <| ai @ln46 <| ai @lnn46 <| ai @sz53 <| ai @zc53 <| ai @rd53 <| ai @ln53 <| ai @lnn53 <| ai @sz54 <| ai @zc54 <| ai @rd54 <| ai @ln54 <| ai @lnn54 <| ai @sz56 <| ai @zc56 <| ai @rd56 <| ai @fo56_0 <| ai @ff56_0 <| ai @fo56_1 <| ai @ff56_1 <| ai @bv56 <| ai @Qsv <| ai @zc57 <| ai @rd57 <| ai @sz59 <| ai @zc59 <| ai @rd59 <| ai @fo59_0 <| ai @ff59_0 <| ai @fo59_1 <| ai @ff59_1 <| ai @fo59_2 <| ai @ff59_2 <| ai @fo59_3 <| ai @ff59_3 <| ai @bv59 <| ai @sz61 <| ai @zc61 <| ai @rd61 <| ai @fo61_0 <| ai @ff61_0 <| ai @fo61_1 <| ai @ff61_1 <| ai @fo61_2 <| ai @ff61_2 <| ai @fo61_3 <| ai @ff61_3 <| ai @fo61_4 <| ai @ff61_4 <| ai @bv61 <| ai @sz62 <| ai @zc62 <| ai @Qo3 <| ai @ln62 <| ai @lnn62 <| ai @sz63 <| ai @zc63 <| ai @Qty <| ai @ln63 <| ai @lnn63 <| ai @sz65 <| ai @zc65 <| ai @rd65 <| ai @fo65_0 <| ai @ff65_0 <| ai @fo65_1 <| ai @ff65_1 <| ai @fo65_2 <| ai @ff65_2 <| ai @fo65_3 <| ai @ff65_3 <| ai @fo65_4 <| ai @ff65_4 <| ai @fo65_5 <| ai @ff65_5 <| ai @fo65_6 <| ai @ff65_6 <| ai @fo65_7 <| ai @ff65_7 <| ai @fo65_8 <| ai @ff65_8 <| ai @fo65_9 <| ai @ff65_9 <| ai @Q7k <| ai @Q68 <| ai @bv65 <| ai @sz91 <| ai @zc91 <| ai @rd91 <| ai @fo91_0 <| ai @ff91_0 <| ai @fo91_1 <| ai @ff91_1 <| ai @fo91_2 <| ai @ff91_2 <| ai @fo91_3 <| ai @ff91_3 <| ai @fo91_4 <| ai @ff91_4 <| ai @fo91_5 <| ai @ff91_5 <| ai @fo91_6 <| ai @ff91_6 <| ai @fo91_7 <| ai @ff91_7 <| ai @bv91 <| ai @sz92 <| ai @zc92 <| ai @rd92 <| ai @sz94 <| ai @zc94 <| ai @rd94 <| ai @ln94 <| ai @lnn94 <| ai @Qrw <| ai @zc96 <| ai @rd96 <| ai @fo96_0 <| ai @ff96_0 <| ai @fo96_1 <| ai @ff96_1 <| ai @fo96_2 <| ai @ff96_2 <| ai @fo96_3 <| ai @ff96_3 <| ai @fo96_4 <| ai @ff96_4 <| ai @fo96_5 <| ai @ff96_5 <| ai @fo96_6 <| ai @ff96_6 <| ai @fo96_7 <| ai @ff96_7 <| ai @fo96_8 <| ai @ff96_8 <| ai @bv96 <| ai @sz100 <| ai @zc100 <| ai @rd100 <| ai @sz122 <| ai @zc122 <| ai @rd122 <| ai @sz135 <| ai @zc135 <| ai @rd135 <| ai @sz140 <| ai @zc140 <| ai @rd140 <| ai @sz206 <| ai @zc206 <| ai @rd206 <| ai @Qnk <| ai @Qzc <| ai @Q2o <| ai @Q64 <| ai @Q6r <| ai @Q7d <| ai @Q71 <| ai @bv213 <| ai @sz218 <| ai @zc218 <| ai @rd218 <| ai @sz291 <| ai @zc291 <| ai @rd291 <| ai @sz363 <| ai @zc363 <| ai @rd363 <| ai @sz372 <| ai @zc372 <| ai @rd372 <| ai @sz429 <| ai @zc429 <| ai @rd429 <| ai @Q77 <| ai @Q8z <| ai @Q6m <| ai @Q7t <| ai @Q8y <| ai @Q8k <| ai @bv429 <| ai @sz466 <| ai @zc466 <| ai @rd466 <| ai @Q6n <| ai @Q6i <| ai @Q7q <| ai @Q7v <| ai @bv466 <| ai @sz467 <| ai @zc467 <| @rd467
def Q3j (v1 v34 v35 v36 : V) : List V := [.bad, v1, .bad, .bad, .bad, .bad, .bad, .bad, .bad, .bad, .bad, .bad, .bad, .bad, .bad, .bad, .bad, .bad, .bad, .bad, .bad, .bad, .bad, .bad, .bad, .bad, .bad, .bad, .bad, .bad, .bad, .bad, .bad, .bad, v34, v35, v36, .bad, .bad, .bad, .bad, .bad, .bad, .bad, .bad, .bad, .bad, .bad, .bad, .bad, .bad, .bad, .bad, .bad, .bad, .bad, .bad, .bad, .bad, .bad, .bad, .bad, .bad, .bad, .bad, .bad, .bad, .bad, .bad, .bad, .bad, .bad, .bad, .bad, .bad, .bad, .bad, .bad, .bad, .bad, .bad, .bad, .bad, .bad, .bad, .bad, .bad, .bad, .bad, .bad, .bad, .bad, .bad, .bad, .bad, .bad, .bad, .bad, .bad, .bad, .bad, .bad, .bad, .bad, .bad, .bad, .bad, .bad, .bad, .bad, .bad, .bad, .bad, .bad, .bad, .bad, .bad, .bad, .bad, .bad, .bad, .bad, .bad, .bad, .bad, .bad, .bad, .bad, .bad, .bad, .bad, .bad, .bad, .bad, .bad, .bad, .bad, .bad, .bad, .bad, .bad, .bad, .bad, .bad, .bad, .bad, .bad, .bad, .bad, .bad, .bad, .bad, .bad, .bad]
def Qsz (v1 v108 v109 v110 : V) : List V := [.bad, v1, .bad, .bad, .bad, .bad, .bad, .bad, .bad, .bad, .bad, .bad, .bad, .bad, .bad, .bad, .bad, .bad, .bad, .bad, .bad, .bad, .bad, .bad, .bad, .bad, .bad, .bad, .bad, .bad, .bad, .bad, .bad, .bad, .bad, .bad, .bad, .bad, .bad, .bad, .bad, .bad, .bad, .bad, .bad, .bad, .bad, .bad, .bad, .bad, .bad, .bad, .bad, .bad, .bad, .bad, .bad, .bad, .bad, .bad, .bad, .bad, .bad, .bad, .bad, .bad, .bad, .bad, .bad, .bad, .bad, .bad, .bad, .bad, .bad, .bad, .bad, .bad, .bad, .bad, .bad, .bad, .bad, .bad, .bad, .bad, .bad, .bad, .bad, .bad, .bad, .bad, .bad, .bad, .bad, .bad, .bad, .bad, .bad, .bad, .bad, .bad, .bad, .bad, .bad, .bad, .bad, .bad, v108, v109, v110, .bad, .bad, .bad, .bad, .bad, .bad, .bad, .bad, .bad, .bad, .bad, .bad, .bad, .bad, .bad, .bad, .bad, .bad, .bad, .bad, .bad, .bad, .bad, .bad, .bad, .bad, .bad, .bad, .bad, .bad, .bad, .bad, .bad, .bad, .bad, .bad, .bad, .bad, .bad, .bad, .bad, .bad, .bad]
def Qwv (v0 v10 v11 v12 : V) : List V := [v0, .bad, .bad, .bad, .bad, .bad, .bad, .bad, .bad, .bad, v10, v11, v12, .bad, .bad, .bad, .bad, .bad, .bad, .bad, .bad, .bad, .bad, .bad, .bad, .bad, .bad, .bad, .bad, .bad, .bad, .bad, .bad, .bad, .bad, .bad, .bad, .bad, .bad, .bad, .bad, .bad, .bad, .bad, .bad, .bad, .bad, .bad, .bad, .bad, .bad, .bad, .bad, .bad, .bad, .bad, .bad, .bad, .bad, .bad, .bad, .bad, .bad, .bad, .bad, .bad, .bad, .bad, .bad, .bad, .bad, .bad, .bad, .bad, .bad, .bad, .bad, .bad, .bad, .bad, .bad, .bad, .bad, .bad, .bad, .bad, .bad, .bad, .bad]
def Qtc (v0 v51 v52 v53 : V) : List V := [v0, .bad, .bad, .bad, .bad, .bad, .bad, .bad, .bad, .bad, .bad, .bad, .bad, .bad, .bad, .bad, .bad, .bad, .bad, .bad, .bad, .bad, .bad, .bad, .bad, .bad, .bad, .bad, .bad, .bad, .bad, .bad, .bad, .bad, .bad, .bad, .bad, .bad, .bad, .bad, .bad, .bad, .bad, .bad, .bad, .bad, .bad, .bad, .bad, .bad, .bad, v51, v52, v53, .bad, .bad, .bad, .bad, .bad, .bad, .bad, .bad, .bad, .bad, .bad, .bad, .bad, .bad, .bad, .bad, .bad, .bad, .bad, .bad, .bad, .bad, .bad, .bad, .bad, .bad, .bad, .bad, .bad, .bad, .bad, .bad, .bad, .bad, .bad]
def Qse (v1 v3 v19 v20 v21 : V) : List V := [.bad, v1, .bad, v3, .bad, .bad, .bad, .bad, .bad, .bad, .bad, .bad, .bad, .bad, .bad, .bad, .bad, .bad, .bad, v19, v20, v21, .bad, .bad, .bad, .bad, .bad, .bad, .bad, .bad, .bad, .bad, .bad, .bad, .bad, .bad, .bad, .bad, .bad, .bad, .bad, .bad, .bad, .bad, .bad, .bad, .bad, .bad, .bad, .bad, .bad, .bad, .bad]
def Qlz (v3 v33 v34 v35 : V) : List V := [.bad, .bad, .bad, v3, .bad, .bad, .bad, .bad, .bad, .bad, .bad, .bad, .bad, .bad, .bad, .bad, .bad, .bad, .bad, .bad, .bad, .bad, .bad, .bad, .bad, .bad, .bad, .bad, .bad, .bad, .bad, .bad, .bad, v33, v34, v35, .bad, .bad, .bad, .bad, .bad, .bad, .bad, .bad, .bad, .bad, .bad, .bad, .bad, .bad, .bad, .bad, .bad]
def Qyh (v0 v8 v9 v10 : V) : List V := [v0, .bad, .bad, .bad, .bad, .bad, .bad, .bad, v8, v9, v10, .bad, .bad, .bad, .bad, .bad, .bad, .bad, .bad, .bad, .bad, .bad, .bad, .bad, .bad, .bad, .bad, .bad, .bad, .bad, .bad, .bad, .bad, .bad, .bad, .bad, .bad, .bad]
def Q3e (v0 v1 v2 v8 v9 v10 : V) : List V := [v0, v1, v2, .bad, .bad, .bad, .bad, .bad, v8, v9, v10, .bad, .bad, .bad, .bad, .bad, .bad, .bad, .bad, .bad, .bad, .bad, .bad, .bad, .bad, .bad, .bad, .bad, .bad, .bad, .bad, .bad, .bad, .bad, .bad, .bad, .bad, .bad, .bad, .bad, .bad, .bad, .bad, .bad, .bad, .bad, .bad, .bad, .bad]
def Q30 (v3 v6 v7 v8 : V) : List V := [.bad, .bad, .bad, v3, .bad, .bad, v6, v7, v8, .bad, .bad, .bad, .bad, .bad, .bad, .bad, .bad, .bad]
def Q21 (v0 v1 v7 v8 : V) : List V := [v0, v1, .bad, .bad, .bad, .bad, .bad, v7, v8, .bad, .bad, .bad, .bad, .bad, .bad, .bad, .bad, .bad, .bad]
def Q3l (v1 v2 v3 v11 v12 v13 : V) : List V := [.bad, v1, v2, v3, .bad, .bad, .bad, .bad, .bad, .bad, .bad, v11, v12, v13, .bad, .bad, .bad, .bad, .bad, .bad, .bad, .bad, .bad, .bad, .bad, .bad, .bad, .bad, .bad, .bad, .bad, .bad, .bad, .bad, .bad, .bad, .bad, .bad, .bad, .bad, .bad, .bad, .bad, .bad, .bad, .bad, .bad, .bad, .bad, .bad, .bad, .bad, .bad, .bad, .bad, .bad, .bad, .bad, .bad, .bad, .bad]
def Q3k (v1 v2 v27 v28 v29 : V) : List V := [.bad, v1, v2, .bad, .bad, .bad, .bad, .bad, .bad, .bad, .bad, .bad, .bad, .bad, .bad, .bad, .bad, .bad, .bad, .bad, .bad, .bad, .bad, .bad, .bad, .bad, .bad, v27, v28, v29, .bad, .bad, .bad, .bad, .bad, .bad, .bad, .bad, .bad, .bad, .bad, .bad, .bad, .bad, .bad, .bad, .bad, .bad, .bad, .bad, .bad, .bad, .bad, .bad, .bad, .bad, .bad, .bad, .bad, .bad, .bad]
def Qsm (v2 v43 v44 v45 : V) : List V := [.bad, .bad, v2, .bad, .bad, .bad, .bad, .bad, .bad, .bad, .bad, .bad, .bad, .bad, .bad, .bad, .bad, .bad, .bad, .bad, .bad, .bad, .bad, .bad, .bad, .bad, .bad, .bad, .bad, .bad, .bad, .bad, .bad, .bad, .bad, .bad, .bad, .bad, .bad, .bad, .bad, .bad, .bad, v43, v44, v45, .bad, .bad, .bad, .bad, .bad, .bad, .bad, .bad, .bad, .bad, .bad, .bad, .bad, .bad, .bad]
def Q4n (v0 v2 v3 v9 v10 v11 : V) : List V := [v0, .bad, v2, v3, .bad, .bad, .bad, .bad, .bad, v9, v10, v11, .bad, .bad, .bad, .bad, .bad, .bad, .bad, .bad, .bad, .bad, .bad, .bad, .bad, .bad, .bad, .bad, .bad, .bad, .bad, .bad, .bad, .bad, .bad, .bad, .bad, .bad]
def Qwl (v2 v6 v21 v22 v23 : V) : List V := [.bad, .bad, v2, .bad, .bad, .bad, v6, .bad, .bad, .bad, .bad, .bad, .bad, .bad, .bad, .bad, .bad, .bad, .bad, .bad, .bad, v21, v22, v23, .bad, .bad, .bad, .bad, .bad, .bad, .bad, .bad, .bad, .bad, .bad, .bad, .bad, .bad]
def Q5q (v7 v8 : V) : List V := [.bad, .bad, .bad, .bad, .bad, .bad, .bad, v7, v8, .bad, .bad, .bad, .bad, .bad, .bad, .bad, .bad, .bad, .bad, .bad, .bad, .bad, .bad, .bad, .bad, .bad, .bad, .bad, .bad, .bad, .bad, .bad, .bad, .bad, .bad, .bad, .bad, .bad, .bad, .bad, .bad, .bad, .bad, .bad, .bad, .bad, .bad, .bad]
def Qgl (v2 v4 v16 : V) : List V := [.bad, .bad, v2, .bad, v4, .bad, .bad, .bad, .bad, .bad, .bad, .bad, .bad, .bad, .bad, .bad, v16, .bad, .bad, .bad, .bad, .bad, .bad, .bad, .bad, .bad, .bad, .bad, .bad, .bad, .bad]
def Qsu (v0 v3 v4 : V) : List V := [v0, .bad, .bad, v3, v4, .bad, .bad, .bad, .bad, .bad, .bad, .bad, .bad, .bad, .bad, .bad, .bad, .bad, .bad, .bad, .bad, .bad, .bad, .bad, .bad]
def Qy0 (v0 v1 v7 v8 : V) : List V := [v0, v1, .bad, .bad, .bad, .bad, .bad, v7, v8, .bad, .bad, .bad, .bad, .bad, .bad, .bad, .bad, .bad, .bad]
def Qys (v0 v1 v6 : V) : List V := [v0, v1, .bad, .bad, .bad, .bad, v6, .bad, .bad, .bad, .bad, .bad, .bad, .bad, .bad, .bad, .bad, .bad, .bad, .bad, .bad, .bad, .bad, .bad, .bad, .bad, .bad, .bad, .bad, .bad, .bad, .bad, .bad]
def Qyw (v0 v1 v2 v4 : V) : List V := [v0, v1, v2, .bad, v4, .bad, .bad, .bad, .bad, .bad, .bad, .bad, .bad, .bad, .bad, .bad, .bad, .bad, .bad, .bad, .bad, .bad, .bad, .bad, .bad, .bad, .bad, .bad, .bad, .bad, .bad]
def Qry (v1 v5 v10 v11 v12 : V) : List V := [.bad, v1, .bad, .bad, .bad, v5, .bad, .bad, .bad, .bad, v10, v11, v12, .bad, .bad, .bad, .bad, .bad, .bad, .bad, .bad, .bad, .bad, .bad, .bad, .bad]
def Qy7 (v3 v9 v10 : V) : List V := [.bad, .bad, .bad, v3, .bad, .bad, .bad, .bad, .bad, v9, v10, .bad, .bad, .bad, .bad, .bad, .bad, .bad, .bad, .bad, .bad, .bad, .bad, .bad]
def Qzm (v0 v2 v3 v4 : V) : List V := [v0, .bad, v2, v3, v4, .bad, .bad, .bad, .bad, .bad, .bad, .bad, .bad, .bad, .bad, .bad, .bad, .bad, .bad, .bad, .bad, .bad, .bad, .bad, .bad, .bad, .bad, .bad, .bad, .bad, .bad, .bad, .bad, .bad, .bad, .bad, .bad, .bad, .bad, .bad, .bad, .bad, .bad, .bad, .bad, .bad, .bad]
def Qzl (v3 v4 v5 v8 v9 : V) : List V := [.bad, .bad, .bad, v3, v4, v5, .bad, .bad, v8, v9, .bad, .bad, .bad, .bad, .bad, .bad, .bad, .bad, .bad, .bad, .bad, .bad, .bad, .bad, .bad, .bad, .bad, .bad, .bad, .bad, .bad]
def Qze (v2 v4 v5 v6 : V) : List V := [.bad, .bad, v2, .bad, v4, v5, v6, .bad, .bad, .bad, .bad, .bad]
def Qsl (v0 v1 v3 : V) : List V := [v0, v1, .bad, v3, .bad, .bad, .bad, .bad, .bad, .bad, .bad, .bad, .bad, .bad, .bad, .bad, .bad, .bad, .bad]
def Qyy (v0 v2 v4 v8 v9 v10 : V) : List V := [v0, .bad, v2, .bad, v4, .bad, .bad, .bad, v8, v9, v10, .bad, .bad, .bad, .bad, .bad, .bad, .bad, .bad, .bad, .bad, .bad, .bad, .bad, .bad, .bad, .bad, .bad, .bad, .bad, .bad, .bad, .bad, .bad, .bad, .bad, .bad, .bad, .bad, .bad, .bad, .bad, .bad, .bad, .bad, .bad, .bad, .bad, .bad]
end
end Go.Proofs.YteagpfbdmiihaaaGreatDoor
