/- This file holds in one the texts DYp; each says at its head what it proves. -/
import Derived.Test.YteagpfbdmiihaaaGreatDoorT28
import Derived.Test.YteagpfbdmiihaaaGreatDoorT45
set_option linter.unusedSimpArgs false
set_option linter.unusedVariables false
namespace Go.Proofs.YteagpfbdmiihaaaGreatDoor
section
open Go.AM Go.AM.BM
set_option maxRecDepth 1000000
noncomputable abbrev L14 := (au3, ru3) :: L13
theorem l14 : Xm Tryz.prog 10 L14 := Yc (by kernel_rfl) ans_u3 l13
noncomputable abbrev K14 := Qgx 10 (Qak (Qai L14)) K13
theorem k14 : KOk Tryz.prog K14 := Xc (Xf l14) k13
noncomputable abbrev polL : BM.Pol := Qc6 K14
theorem okL : BM.Okay Tryz.prog polL := okC k14
theorem Q1s : isTrue (X8 Tryz.prog polL 1000 (some 3) [] F0) = true := by kernel_rfl
end
end Go.Proofs.YteagpfbdmiihaaaGreatDoor
