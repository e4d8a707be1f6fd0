/- This file holds in one the texts DX; each says at its head what it proves. -/
import Derived.Test.YteagpfbdmiihaaaGreatDoorT22
import Derived.Test.YteagpfbdmiihaaaGreatDoorT26
import Derived.Test.YteagpfbdmiihaaaGreatDoorT31
import Derived.Test.YteagpfbdmiihaaaGreatDoorT33
import Derived.Test.YteagpfbdmiihaaaGreatDoorT34
import Derived.Test.YteagpfbdmiihaaaGreatDoorT37
set_option linter.unusedSimpArgs false
set_option linter.unusedVariables false
namespace Go.Proofs.YteagpfbdmiihaaaGreatDoor
section
open Go.AM Go.AM.BM
noncomputable def Qc6 (K : FuncId -> Option Qbj) : BM.Pol where
 prim := fun f => match f with
  | 77 => some (Qo8 Qzk)
  | 119 => some (conQ (Qzt 120))
  | 65 => some (Bh Ql0)
  | 56 => some (Qo8 kNew)
  | 127 => some (Bh kMax)
  | 194 => some (Bh kSum)
  | 196 => some (Bh kGet)
  | 225 => some (Bh kKey)
  | 387 => some (Bh kOn)
  | 18 => some (Bh kTxg)
  | 419 => some (Bh (Qyu 420))
  | 201 => some Qby
  | 489 => some Xt
  | 222 => some Ki
  | 404 => some Y7
  | _ => none
 fix := fun f => f == 124
 fixA := fun f => match f with
  | 394 => some 2
  | 122 => some 2
  | _ => none
 prims := fun f => match K f with
  | some g => some g
  | none => (match f with
    | 370 => some (Qwh 12 96)
    | _ => none)
theorem xMake : Kh Tryz.prog 201 (Extern.BytealgMakeNoZero.makeNoZero Tryz.f201.params Tryz.f201.resultTypes) := ⟨Tryz.f201, Tryz.func201, by kernel_rfl, by kernel_rfl, by kernel_rfl, by kernel_rfl⟩
theorem xCmpS : Kh Tryz.prog 489 Extern.BytealgCompare.compare := ⟨Tryz.f489, Tryz.func489, by kernel_rfl, by kernel_rfl, by kernel_rfl, by kernel_rfl⟩
theorem xCount : Kh Tryz.prog 222 Extern.BytealgCount.count := ⟨Tryz.f222, Tryz.func222, by kernel_rfl, by kernel_rfl, by kernel_rfl, by kernel_rfl⟩
theorem xIndex : Kh Tryz.prog 404 Extern.BytealgIndexByte.indexByte := ⟨Tryz.f404, Tryz.func404, by kernel_rfl, by kernel_rfl, by kernel_rfl, by kernel_rfl⟩
theorem Qmd {K : FuncId -> Option Qbj} {f : FuncId} {g : BM.Prim} (h : (Qc6 K).prim f = some g) :
 (f = 77 /\ g = Qo8 Qzk) \/ (f = 119 /\ g = conQ (Qzt 120)) \/ (f = 65 /\ g = Bh Ql0) \/ (f = 56 /\ g = Qo8 kNew) \/ (f = 127 /\ g = Bh kMax) \/ (f = 194 /\ g = Bh kSum) \/ (f = 196 /\ g = Bh kGet) \/ (f = 225 /\ g = Bh kKey) \/ (f = 387 /\ g = Bh kOn) \/ (f = 18 /\ g = Bh kTxg) \/ (f = 419 /\ g = Bh (Qyu 420)) \/ (f = 201 /\ g = Qby) \/ (f = 489 /\ g = Xt) \/ (f = 222 /\ g = Ki) \/ (f = 404 /\ g = Y7) := by
 simp only [Qc6] at h
 split at h <;> cases h <;> simp
theorem Qlv {K : FuncId -> Option Qbj} (hK : ∀ f g, K f = some g -> Qe0 Tryz.prog f g) {f : FuncId} {g : Qbj} (h : (Qc6 K).prims f = some g) : Qe0 Tryz.prog f g := by
 simp only [Qc6] at h
 split at h
 . cases h; exact hK _ _ (by assumption)
 . split at h
   . cases h; exact ins_ok Q4f
   . cases h
theorem okC {K : FuncId -> Option Qbj} (hK : ∀ f g, K f = some g -> Qe0 Tryz.prog f g) : BM.Okay Tryz.prog (Qc6 K) where
 mixed := Tryz.checked.mixed
 draws := fun f F c hF hc => by
  rw [Q1f]; exact okD.draws f F c hF hc
 loops := fun f F c hF hc => by
  rw [Q5x]; exact okD.loops f F c hF hc
 num := okD.num
 prim := fun f g hg B F H E fr dst args cargs v x S one h0 htab hr h => by
  rcases Qmd hg with ⟨rfl, rfl⟩ | ⟨rfl, rfl⟩ | ⟨rfl, rfl⟩ | ⟨rfl, rfl⟩ | ⟨rfl, rfl⟩ | ⟨rfl, rfl⟩ | ⟨rfl, rfl⟩ | ⟨rfl, rfl⟩ | ⟨rfl, rfl⟩ | ⟨rfl, rfl⟩ | ⟨rfl, rfl⟩ | ⟨rfl, rfl⟩ | ⟨rfl, rfl⟩ | ⟨rfl, rfl⟩ | ⟨rfl, rfl⟩
  . exact Qh2 okD Q25 B F H E fr dst args cargs v x S one h0 htab hr h
  . exact Qyf okD Q27 B F H E fr dst args cargs v x S one h0 htab hr h
  . exact Kn okD Qp6 B F H E fr dst args cargs v x S one h0 htab hr h
  . exact Qh2 okD Q8w B F H E fr dst args cargs v x S one h0 htab hr h
  . exact Kn okD Q7z B F H E fr dst args cargs v x S one h0 htab hr h
  . exact Kn okD Q7i B F H E fr dst args cargs v x S one h0 htab hr h
  . exact Kn okD Q6x B F H E fr dst args cargs v x S one h0 htab hr h
  . exact Kn okD Q75 B F H E fr dst args cargs v x S one h0 htab hr h
  . exact Kn okD kOn_fz B F H E fr dst args cargs v x S one h0 htab hr h
  . exact Kn okD Q83 B F H E fr dst args cargs v x S one h0 htab hr h
  . exact Kn okD Q29 B F H E fr dst args cargs v x S one h0 htab hr h
  . exact Qei one (AM.sound_make xMake (e := 5) (by kernel_rfl) S (by omega) hr h)
  . exact Qei one (AM.sound_compare xCmpS S hr h)
  . exact Qei one (AM.sound_count xCount S hr h)
  . exact Qei one (AM.sound_indexByte xIndex S hr h)
 loop := fun f F c _ _ => Que (fun _ => rfl) c
 tame := {
  prim := fun f g hg nm G G' args v w hle hn h => by
   rcases Qmd hg with ⟨rfl, rfl⟩ | ⟨rfl, rfl⟩ | ⟨rfl, rfl⟩ | ⟨rfl, rfl⟩ | ⟨rfl, rfl⟩ | ⟨rfl, rfl⟩ | ⟨rfl, rfl⟩ | ⟨rfl, rfl⟩ | ⟨rfl, rfl⟩ | ⟨rfl, rfl⟩ | ⟨rfl, rfl⟩ | ⟨rfl, rfl⟩ | ⟨rfl, rfl⟩ | ⟨rfl, rfl⟩ | ⟨rfl, rfl⟩
   . exact Qjo _ nm G G' args v w hle h
   . exact Q15 _ nm G G' args v w hle h
   . exact Xp _ nm G G' args v w hle h
   . exact Qjo _ nm G G' args v w hle h
   . exact Xp _ nm G G' args v w hle h
   . exact Xp _ nm G G' args v w hle h
   . exact Xp _ nm G G' args v w hle h
   . exact Xp _ nm G G' args v w hle h
   . exact Xp _ nm G G' args v w hle h
   . exact Xp _ nm G G' args v w hle h
   . exact Xp _ nm G G' args v w hle h
   . exact Qoq nm G G' args v w hle hn h
   . exact Qjr nm G G' args v w hle h
   . exact Ql3 nm G G' args v w hle h
   . exact Qhh nm G G' args v w hle h
  loop := fun fn r g hg => by cases hg
  prims := fun f g hg => (Qlv hK hg).tame }
 prims := fun f g hg => (Qlv hK hg).sound
theorem nlC (K : FuncId -> Option Qbj) : Qbm (Qc6 K) := fun _ _ => rfl
end
end Go.Proofs.YteagpfbdmiihaaaGreatDoor
