/- This file holds in one the texts DYtd; each says at its head what it proves. -/
import Derived.Test.YtpdimkonjmoadaaGreatDoorT19
import Derived.Test.YtpdimkonjmoadaaGreatDoorT29
set_option linter.unusedSimpArgs false
set_option linter.unusedVariables false
noncomputable section
namespace Go.Proofs.YtpdimkonjmoadaaGreatDoor
section
open Go.AM Go.AM.BM
set_option maxRecDepth 1000000
def bk15:V:= .iS (K8 256 0x10101000000010101010101010101010101) 256 false
def rp3_0:V:=(.agg [(.iS [(.iS bl3 256 false),.nS,bk15,(n32 1),(n32 0),(n32 4),(n64 17),(n32 4),(n32 0),(n32 0),(n32 30413833),(.iS [(n64 15),(n64 16),(n64 17)] 3 false),(.iS [(n64 1),(n8 1),(n64 1),(n64 2),(n32 3),(n32 1),(n64 0),(n64 0),(n32 0),(n32 0),(n32 0),(n32 0),.nS,(n64 2),(n8 2),(n64 1),(n64 0),(n32 3),(n32 3),(n64 0),(n64 0),(n32 0),(n32 0),(n32 0),(n32 0),.nS] 2 false),(.iS ((.iS (K8 24 0x3a2bfeb64d5c3292944d3cc3ddb461dea17b72b600000001) 24 false)::(Qbf 7 .nS [])) 8 false),(.iS ((.iS (K8 16 0x95607d78f7e34c5956cfb7aa51f85bef) 16 false)::(Qbf 7 .nS [])) 8 false),.nS,(n64 0),(n64 3),(n32 5),(.iS bl1 256 false),.nS,bk2,(n32 2),(n32 0),(n32 1),(n64 14),(n32 1),(n32 0),(n32 0),(n32 3414795990),(.iS [(n64 12),(n64 13),(n64 14)] 3 false),.nS,(.iS (Qbf 8 .nS []) 8 false),(.iS (Qbf 8 .nS []) 8 false),.nS,(n64 0),(n64 1),(n32 2)] 2 false),(.iS (K8 244 0x7a51f4b20e4ee2212592fedd84ce81387c9bdc855a835ffdaf7f3fee17e242c06492cf5527ecce78e586aaa95cf795f4e1369de3203ed122a5eca3c33c343f4863429990eb526509d9e841104d45370ae45700769c639258f99ecc5b6778675e01440f6d1871add4f9edeb76b16305aa7e2294979ccd852a6cf708eae2a6d2d5a8ae157c387526a0ea880cd39d5b8a9500b99be2d1e1c13ef5a90a2192e07d67ee11c1773cf196e1f4008ad49fd17f683ffdcaef7ff86082db3ba3e7c3a4d18eaae50ba4ab2858f947041a227c574e830000003a2bfeb64d5c3292944d3cc3ddb461dea17b72b600000001000000000000000353) 244 false),(.iS (K8 16 0x65657478697320666f20646565732061) 16 false),(n64 1)])
def rp3_1:V:=(.agg [(n64 0),(n64 0),.nS,.nS,(n64 0),(n8 0),(n64 0),(n64 0),(.str []),.nS])
def rp3:V:= .tuple [rp3_0,rp3_1]
def ap3:List V:=[rp2_0,(.agg [(n8 3),(n64 0),(n64 2),(n64 0),(n8 0),(n64 0),(n64 0),(n64 0),(.str []),(.str []),(.str []),.nS,.nS])]
abbrev L3:=(ap2,rp2)::L2
theorem l3:Qfn Tp 6 L3:=Qcx (by kernel_rfl) ans_p2 l2
abbrev K3:=Qxa 6 (Qi3 (Qjd L3)) K2
theorem k3:KOk Tp K3:=Qig (Qh9 l3) k2
theorem ans_p3:Ans Tp 6 ap3 rp3:=Qak (okC k3) (nlC _) (by kernel_rfl:Qry (Qgf Tp (Qlu K3) 1000 (some 6) ap3 F0)=some rp3) (by kernel_rfl)
end
end Go.Proofs.YtpdimkonjmoadaaGreatDoor
end
