/- This file holds in one the texts DYtg; each says at its head what it proves. -/
import Derived.Test.YtpdimkonjmoadaaGreatDoorT19
import Derived.Test.YtpdimkonjmoadaaGreatDoorT32
set_option linter.unusedSimpArgs false
set_option linter.unusedVariables false
noncomputable section
namespace Go.Proofs.YtpdimkonjmoadaaGreatDoor
section
open Go.AM Go.AM.BM
set_option maxRecDepth 1000000
def Q8u:V:=(.bool true)
abbrev Zas:V:=Q8u
def Q8w:List V:=[]
abbrev L6:=(ap5,rp5)::L5
theorem l6:Qfn Tp 6 L6:=Qcx (by kernel_rfl) ans_p5 l5
abbrev K6:=Qxa 6 (Qi3 (Qjd L6)) K5
theorem k6:KOk Tp K6:=Qig (Qh9 l6) k5
theorem Q5d:Ans Tp 4 Q8w Zas:=Qak (okC k6) (nlC _) (by kernel_rfl:Qry (Qgf Tp (Qlu K6) 1000 (some 4) Q8w F0)=some Zas) (by kernel_rfl)
end
end Go.Proofs.YtpdimkonjmoadaaGreatDoor
end
