/- This file holds in one the texts DYrb; each says at its head what it proves. -/
import Derived.Test.YtidniacddkalaaaGreatDoorT28
import Derived.Test.YtidniacddkalaaaGreatDoorT44
set_option linter.unusedSimpArgs false
set_option linter.unusedVariables false
namespace Go.Proofs.YtidniacddkalaaaGreatDoor
section
open Go.AM Go.AM.BM
set_option maxRecDepth 1000000
noncomputable def Q8h:V:=(.bool true)
noncomputable abbrev Zb9:V:=Q8h
noncomputable def Zbr:List V:=[]
noncomputable abbrev K1:=addK 9 (Qzu (Zb4 rone)) (fun _=>none)
theorem k1:KOk Tryz.prog K1:=Zen (Q9y Zfa) noK
theorem Q50:Ans Tryz.prog 4 Zbr Zb9:=Qp3 (okC k1) (nlC _) (by kernel_rfl:ansF (Qoh Tryz.prog (Qzc K1) 1000 (some 4) Zbr F0)=some Zb9) (by kernel_rfl)
end
end Go.Proofs.YtidniacddkalaaaGreatDoor
