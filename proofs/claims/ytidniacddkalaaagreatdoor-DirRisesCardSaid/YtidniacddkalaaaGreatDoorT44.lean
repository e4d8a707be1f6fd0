/- This file holds in one the texts DYra; each says at its head what it proves. -/
import Derived.Test.YtidniacddkalaaaGreatDoorT28
import Derived.Test.YtidniacddkalaaaGreatDoorT43
set_option linter.unusedSimpArgs false
set_option linter.unusedVariables false
namespace Go.Proofs.YtidniacddkalaaaGreatDoor
section
open Go.AM Go.AM.BM
set_option maxRecDepth 1000000
noncomputable def bk0:V:= .iS (Qwi 256 0x139f058aed47ce5800000000000000000000010e000000010000000143) 256 true
noncomputable def bk1:V:= .iS (Qwi 256 0xebea98f152ca1b65000000000000000000000211000000010000000243) 256 true
noncomputable def bk2:V:= .iS (Qwi 256 0x641d1b0600000000000000000000010d000000000000000000000000000000000000000000000000000000000000000000000000000000000000000000000000641d1b0600000000000000000000010c00000000000000000000000001000152) 256 true
noncomputable def bk3:V:= .iS (Qwi 256 0x100000100010101) 256 true
noncomputable def bk4:V:= .iS (Qwi 256 0xaf3f9f1ad83c4fea63ae709a8b7bd674f083295900000001) 256 true
noncomputable def bk5:V:= .iS (Qwi 256 0x2eb384330000000000000000000002100000000000000000000000000000000000000000000000000000000000000000000000000000000000000000000000002dc16d3f00000000000000000000020f00000000000000000100000003000252) 256 true
noncomputable def bl0:List V:=(zbT::(bk0::(bk1::(repT 11 zbT (bk2::(bk3::(bk4::(bk5::(repT 238 zbT [])))))))))
noncomputable def bk6:V:= .iS (Qwi 256 0x10101000000010101010101010101010101) 256 true
noncomputable def rone_0:V:=(.agg [(.iS bl0 256 false),.nS,bk6,(n32 1),(n32 0),(n32 2),(n64 17),(n32 2),(n32 0),(n32 0),(n32 1388976997),(.iS [(n64 15),(n64 16),(n64 17)] 3 false),(.iS [(n64 1),(n8 1),(n64 1),(n64 0),(n32 1),(n32 1),(n64 0),(n64 0),(n32 0),(n32 0),(n32 0),(n32 0),.nS] 1 false),(.iS ((.iS (Qwi 24 0xaf3f9f1ad83c4fea63ae709a8b7bd674f083295900000001) 24 false)::(repT 7 .nS [])) 8 false),(.iS ((.iS (Qwi 16 0x0) 16 false)::(repT 7 .nS [])) 8 false),.nS,(n64 0),(n64 2),(n32 3)])
noncomputable def rone_1:V:=(.bool true)
noncomputable def rone:V:= .tuple [rone_0,rone_1]
noncomputable def aone:List V:=[]
theorem Zfa:Ans Tryz.prog 9 aone rone:=Qp3 (okC noK) (nlC _) (by kernel_rfl:ansF (Qoh Tryz.prog (Qzc (fun _=>none)) 1000 (some 9) aone F0)=some rone) (by kernel_rfl)
end
end Go.Proofs.YtidniacddkalaaaGreatDoor
