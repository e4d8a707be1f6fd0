/- This file holds in one the texts DYna; each says at its head what it proves. -/
import Derived.Test.YtjllfbejpjonnaaGreatDoorT20
import Derived.Test.YtjllfbejpjonnaaGreatDoorT30
set_option linter.unusedSimpArgs false
set_option linter.unusedVariables false
noncomputable section
namespace Go.Proofs.YtjllfbejpjonnaaGreatDoor
section
open Go.AM Go.AM.BM
set_option maxRecDepth 1000000
def bk0:V:= .iS (Q2j 256 0x7d70c1966b0377ce00000000000000000000010e000000010000000143) 256 true
def bk1:V:= .iS (Q2j 256 0x100000000010101) 256 true
def bk2:V:= .iS (Q2j 256 0x1) 256 true
def bk3:V:= .iS (Q2j 256 0x457bf60a00000000000000000000010d0000000000000000000000000000000000000000000000000000000000000000000000000000000000000000000000005c81afac00000000000000000000010c00000000000000000100000002000252) 256 true
def bl0:List V:=(zbT::(bk0::(repT 10 zbT (bk1::(bk2::(bk3::(repT 241 zbT [])))))))
def bk4:V:= .iS (Q2j 256 0x10101010101010101010101010101) 256 false
def rone_0:V:=(.agg [(.iS bl0 256 false),.nS,bk4,(n32 1),(n32 0),(n32 1),(n64 14),(n32 1),(n32 0),(n32 0),(n32 1795389390),(.iS [(n64 12),(n64 13),(n64 14)] 3 false),(.iS [(n64 1),(n8 1),(n64 1),(n64 0),(n32 0),(n32 1),(n64 0),(n64 0),(n32 0),(n32 0),(n32 0),(n32 0),.nS] 1 false),(.iS ((.iS (Q2j 24 0x1) 24 false)::(repT 7 .nS [])) 8 false),(.iS ((.iS (Q2j 16 0x0) 16 false)::(repT 7 .nS [])) 8 false),(.iS [(n64 1),(n64 0),(n64 0),(n8 0),(n64 0),(n64 0),zbT,(n64 0),(n32 0),(n32 0),(n32 0),(n32 0),(n64 1),(n64 0),(n64 15),(n8 1),(n64 0),(n64 0),.nS,(n64 0),(n32 0),(n32 0),(n32 0),(n32 0)] 2 true),(n64 0),(n64 2),(n32 2)])
def rone_1:V:=(.bool true)
def rone:V:= .tuple [rone_0,rone_1]
def aone:List V:=[]
theorem Zc0:Ans Tp 7 aone rone:=Qrc (okC noK) (nlC _) (by kernel_rfl:ansF (Qqi Tp (Qyz (fun _=>none)) 1000 (some 7) aone F0)=some rone) (by kernel_rfl)
end
end Go.Proofs.YtjllfbejpjonnaaGreatDoor
end
