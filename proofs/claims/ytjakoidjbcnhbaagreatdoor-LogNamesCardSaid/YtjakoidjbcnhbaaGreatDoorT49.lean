/- This file holds in one the texts DYl; each says at its head what it proves. -/
import Derived.Test.YtjakoidjbcnhbaaGreatDoorT48
set_option linter.unusedSimpArgs false
set_option linter.unusedVariables false
section
/- LogNames: the law comes to true. -/
namespace Go.Proofs.YtjakoidjbcnhbaaGreatDoor
open Go.AM Go.AM.BM
set_option maxRecDepth 1000000
noncomputable def F0 : FH := ⟨0, .nil⟩
theorem names_run : isTrue (fcall Tryz.prog polX 1000 (some 5) [] F0) = true := by kernel_rfl
end Go.Proofs.YtjakoidjbcnhbaaGreatDoor
end
