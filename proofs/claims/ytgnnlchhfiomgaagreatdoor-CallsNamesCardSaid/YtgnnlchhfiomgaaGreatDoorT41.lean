/- This file holds in one the texts DYc; each says at its head what it proves. -/
import Derived.Test.YtgnnlchhfiomgaaGreatDoorT28
import Derived.Test.YtgnnlchhfiomgaaGreatDoorT40
set_option linter.unusedSimpArgs false
set_option linter.unusedVariables false
namespace Go.Proofs.YtgnnlchhfiomgaaGreatDoor
section
open Go.AM Go.AM.BM
set_option maxRecDepth 1000000
noncomputable abbrev L12 := (aln, rln) :: L11
theorem l12 : Bm Tryz.prog 7 L12 := Ys (by kernel_rfl) ans_ln l11
noncomputable abbrev K12 := Qim 7 (Qbe (Qbf L12)) K11
theorem k12 : KOk Tryz.prog K12 := Bd (X8 l12) k11
noncomputable abbrev polL : BM.Pol := Qej K12
theorem okL : BM.Okay Tryz.prog polL := okC k12
theorem names_run : isTrue (Bt Tryz.prog polL 1000 (some 3) [] F0) = true := by kernel_rfl
end
end Go.Proofs.YtgnnlchhfiomgaaGreatDoor
