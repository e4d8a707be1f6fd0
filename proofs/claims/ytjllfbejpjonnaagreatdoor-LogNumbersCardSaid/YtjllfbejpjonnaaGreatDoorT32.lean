/- This file holds in one the texts DYnb; each says at its head what it proves. -/
import Derived.Test.YtjllfbejpjonnaaGreatDoorT20
import Derived.Test.YtjllfbejpjonnaaGreatDoorT31
set_option linter.unusedSimpArgs false
set_option linter.unusedVariables false
noncomputable section
namespace Go.Proofs.YtjllfbejpjonnaaGreatDoor
section
open Go.AM Go.AM.BM
set_option maxRecDepth 1000000
def Q8n:V:=(.bool true)
abbrev Q7z:V:=Q8n
def Q97:List V:=[]
abbrev K1:=addK 7 (Qyu (Zac rone)) (fun _=>none)
theorem k1:KOk Tp K1:=Zb9 (Q7r Zc0) noK
theorem Q58:Ans Tp 4 Q97 Q7z:=Qrc (okC k1) (nlC _) (by kernel_rfl:ansF (Qqi Tp (Qyz K1) 1000 (some 4) Q97 F0)=some Q7z) (by kernel_rfl)
end
end Go.Proofs.YtjllfbejpjonnaaGreatDoor
end
