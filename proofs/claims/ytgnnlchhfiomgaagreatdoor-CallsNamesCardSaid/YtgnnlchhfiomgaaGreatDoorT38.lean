/- This file holds in one the texts DX; each says at its head what it proves. -/
import Derived.Test.YtgnnlchhfiomgaaGreatDoorT22
import Derived.Test.YtgnnlchhfiomgaaGreatDoorT26
import Derived.Test.YtgnnlchhfiomgaaGreatDoorT31
import Derived.Test.YtgnnlchhfiomgaaGreatDoorT33
import Derived.Test.YtgnnlchhfiomgaaGreatDoorT34
import Derived.Test.YtgnnlchhfiomgaaGreatDoorT37
set_option linter.unusedSimpArgs false
set_option linter.unusedVariables false
namespace Go.Proofs.YtgnnlchhfiomgaaGreatDoor
section
open Go.AM Go.AM.BM
noncomputable def Qej (K : FuncId -> Option Qbb) : BM.Pol where
 prim := fun f => match f with
  | 92 => some (Qom Qza)
  | 30 => some (conQ (Qy1 168))
  | 79 => some (B5 Qod)
  | 153 => some (Qom kNew)
  | 161 => some (B5 kMax)
  | 267 => some (B5 kSum)
  | 169 => some (B5 kGet)
  | 108 => some (B5 kKey)
  | 10 => some (B5 kTxg)
  | 330 => some (B5 (Qy0 331))
  | 289 => some Qby
  | 409 => some Xc
  | 263 => some Ka
  | 382 => some Y2
  | _ => none
 fix := fun f => f == 172
 fixA := fun f => match f with
  | 315 => some 2
  | 210 => some 2
  | _ => none
 prims := fun f => match K f with
  | some g => some g
  | none => (match f with
    | 179 => some (Qv3 12 96)
    | _ => none)
theorem xMake : Kg Tryz.prog 289 (Extern.BytealgMakeNoZero.makeNoZero Tryz.f289.params Tryz.f289.resultTypes) := ⟨Tryz.f289, Tryz.func289, by kernel_rfl, by kernel_rfl, by kernel_rfl, by kernel_rfl⟩
theorem xCmpS : Kg Tryz.prog 409 Extern.BytealgCompare.compare := ⟨Tryz.f409, Tryz.func409, by kernel_rfl, by kernel_rfl, by kernel_rfl, by kernel_rfl⟩
theorem xCount : Kg Tryz.prog 263 Extern.BytealgCount.count := ⟨Tryz.f263, Tryz.func263, by kernel_rfl, by kernel_rfl, by kernel_rfl, by kernel_rfl⟩
theorem xIndex : Kg Tryz.prog 382 Extern.BytealgIndexByte.indexByte := ⟨Tryz.f382, Tryz.func382, by kernel_rfl, by kernel_rfl, by kernel_rfl, by kernel_rfl⟩
theorem Qmf {K : FuncId -> Option Qbb} {f : FuncId} {g : BM.Prim} (h : (Qej K).prim f = some g) :
 (f = 92 /\ g = Qom Qza) \/ (f = 30 /\ g = conQ (Qy1 168)) \/ (f = 79 /\ g = B5 Qod) \/ (f = 153 /\ g = Qom kNew) \/ (f = 161 /\ g = B5 kMax) \/ (f = 267 /\ g = B5 kSum) \/ (f = 169 /\ g = B5 kGet) \/ (f = 108 /\ g = B5 kKey) \/ (f = 10 /\ g = B5 kTxg) \/ (f = 330 /\ g = B5 (Qy0 331)) \/ (f = 289 /\ g = Qby) \/ (f = 409 /\ g = Xc) \/ (f = 263 /\ g = Ka) \/ (f = 382 /\ g = Y2) := by
 simp only [Qej] at h
 split at h <;> cases h <;> simp
theorem Qn3 {K : FuncId -> Option Qbb} (hK : ∀ f g, K f = some g -> Qf0 Tryz.prog f g) {f : FuncId} {g : Qbb} (h : (Qej K).prims f = some g) : Qf0 Tryz.prog f g := by
 simp only [Qej] at h
 split at h
 . cases h; exact hK _ _ (by assumption)
 . split at h
   . cases h; exact ins_ok Q4m
   . cases h
theorem okC {K : FuncId -> Option Qbb} (hK : ∀ f g, K f = some g -> Qf0 Tryz.prog f g) : BM.Okay Tryz.prog (Qej K) where
 mixed := Tryz.checked.mixed
 draws := fun f F c hF hc => by
  rw [Q0i]; exact okD.draws f F c hF hc
 loops := fun f F c hF hc => by
  rw [Q20]; exact okD.loops f F c hF hc
 num := okD.num
 prim := fun f g hg B F H E fr dst args cargs v x S one h0 htab hr h => by
  rcases Qmf hg with ⟨rfl, rfl⟩ | ⟨rfl, rfl⟩ | ⟨rfl, rfl⟩ | ⟨rfl, rfl⟩ | ⟨rfl, rfl⟩ | ⟨rfl, rfl⟩ | ⟨rfl, rfl⟩ | ⟨rfl, rfl⟩ | ⟨rfl, rfl⟩ | ⟨rfl, rfl⟩ | ⟨rfl, rfl⟩ | ⟨rfl, rfl⟩ | ⟨rfl, rfl⟩ | ⟨rfl, rfl⟩
  . exact Qhc okD Q4o B F H E fr dst args cargs v x S one h0 htab hr h
  . exact Qxb okD Q3v B F H E fr dst args cargs v x S one h0 htab hr h
  . exact Xi okD Qqu B F H E fr dst args cargs v x S one h0 htab hr h
  . exact Qhc okD Q57 B F H E fr dst args cargs v x S one h0 htab hr h
  . exact Xi okD Q7s B F H E fr dst args cargs v x S one h0 htab hr h
  . exact Xi okD Q6s B F H E fr dst args cargs v x S one h0 htab hr h
  . exact Xi okD Q61 B F H E fr dst args cargs v x S one h0 htab hr h
  . exact Xi okD Q6t B F H E fr dst args cargs v x S one h0 htab hr h
  . exact Xi okD Q6f B F H E fr dst args cargs v x S one h0 htab hr h
  . exact Xi okD Q48 B F H E fr dst args cargs v x S one h0 htab hr h
  . exact Qdm one (AM.sound_make xMake (e := 5) (by kernel_rfl) S (by omega) hr h)
  . exact Qdm one (AM.sound_compare xCmpS S hr h)
  . exact Qdm one (AM.sound_count xCount S hr h)
  . exact Qdm one (AM.sound_indexByte xIndex S hr h)
 loop := fun f F c _ _ => Qt5 (fun _ => rfl) c
 tame := {
  prim := fun f g hg nm G G' args v w hle hn h => by
   rcases Qmf hg with ⟨rfl, rfl⟩ | ⟨rfl, rfl⟩ | ⟨rfl, rfl⟩ | ⟨rfl, rfl⟩ | ⟨rfl, rfl⟩ | ⟨rfl, rfl⟩ | ⟨rfl, rfl⟩ | ⟨rfl, rfl⟩ | ⟨rfl, rfl⟩ | ⟨rfl, rfl⟩ | ⟨rfl, rfl⟩ | ⟨rfl, rfl⟩ | ⟨rfl, rfl⟩ | ⟨rfl, rfl⟩
   . exact Qjq _ nm G G' args v w hle h
   . exact Qz4 _ nm G G' args v w hle h
   . exact Bp _ nm G G' args v w hle h
   . exact Qjq _ nm G G' args v w hle h
   . exact Bp _ nm G G' args v w hle h
   . exact Bp _ nm G G' args v w hle h
   . exact Bp _ nm G G' args v w hle h
   . exact Bp _ nm G G' args v w hle h
   . exact Bp _ nm G G' args v w hle h
   . exact Bp _ nm G G' args v w hle h
   . exact Qpq nm G G' args v w hle hn h
   . exact Qi4 nm G G' args v w hle h
   . exact Qlv nm G G' args v w hle h
   . exact Qhy nm G G' args v w hle h
  loop := fun fn r g hg => by cases hg
  prims := fun f g hg => (Qn3 hK hg).tame }
 prims := fun f g hg => (Qn3 hK hg).sound
theorem nlC (K : FuncId -> Option Qbb) : Qbl (Qej K) := fun _ _ => rfl
end
end Go.Proofs.YtgnnlchhfiomgaaGreatDoor
