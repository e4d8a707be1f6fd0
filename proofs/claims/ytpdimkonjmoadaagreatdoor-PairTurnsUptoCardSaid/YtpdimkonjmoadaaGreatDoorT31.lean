/- This file holds in one the texts DYte; each says at its head what it proves. -/
import Derived.Test.YtpdimkonjmoadaaGreatDoorT19
import Derived.Test.YtpdimkonjmoadaaGreatDoorT30
set_option linter.unusedSimpArgs false
set_option linter.unusedVariables false
noncomputable section
namespace Go.Proofs.YtpdimkonjmoadaaGreatDoor
section
open Go.AM Go.AM.BM
set_option maxRecDepth 1000000
def bk16:V:= .iS (K8 256 0x7b66d63b87ba8605000000000000000000000211000000020000000243) 256 true
def bk17:V:= .iS (K8 256 0x300000200010202000000000000000000000000000000000000000000000000000000000000000000000000000000000400000202010101) 256 true
def bk18:V:= .iS (K8 256 0x1429221f00000000000000000000021000000000000000000000000000000000000000000000000000000000000000000000000000000000000000000000000018b2e8ba00000000000000000000020f00000000000000000200000006000352) 256 true
def bl4:List V:=(zbT::(bk3::(bk16::(Qbf 11 zbT (bk4::(bk17::(bk7::(bk18::(Qbf 238 zbT [])))))))))
def rp4_0:V:=(.agg [(.iS [(.iS bl3 256 false),.nS,bk15,(n32 1),(n32 0),(n32 4),(n64 17),(n32 4),(n32 0),(n32 0),(n32 30413833),(.iS [(n64 15),(n64 16),(n64 17)] 3 false),(.iS [(n64 1),(n8 1),(n64 1),(n64 2),(n32 3),(n32 1),(n64 0),(n64 0),(n32 0),(n32 0),(n32 0),(n32 0),.nS,(n64 2),(n8 2),(n64 1),(n64 0),(n32 3),(n32 3),(n64 0),(n64 0),(n32 0),(n32 0),(n32 0),(n32 0),.nS] 2 false),(.iS ((.iS (K8 24 0x3a2bfeb64d5c3292944d3cc3ddb461dea17b72b600000001) 24 false)::(Qbf 7 .nS [])) 8 false),(.iS ((.iS (K8 16 0x95607d78f7e34c5956cfb7aa51f85bef) 16 false)::(Qbf 7 .nS [])) 8 false),.nS,(n64 0),(n64 3),(n32 5),(.iS bl4 256 false),.nS,bk9,(n32 2),(n32 0),(n32 2),(n64 17),(n32 2),(n32 0),(n32 0),(n32 2277148165),(.iS [(n64 15),(n64 16),(n64 17)] 3 false),(.iS [(n64 1),(n8 1),(n64 1),(n64 2),(n32 2),(n32 4),(n64 0),(n64 0),(n32 0),(n32 0),(n32 0),(n32 0),.nS,(n64 2),(n8 2),(n64 1),(n64 0),(n32 2),(n32 3),(n64 0),(n64 0),(n32 0),(n32 0),(n32 0),(n32 0),.nS] 2 false),(.iS ((.iS (K8 24 0x3a2bfeb64d5c3292944d3cc3ddb461dea17b72b600000001) 24 false)::(Qbf 7 .nS [])) 8 false),(.iS (Qbf 8 .nS []) 8 false),.nS,(n64 0),(n64 3),(n32 6)] 2 false),(.iS (K8 244 0x7a51f4b20e4ee2212592fedd84ce81387c9bdc855a835ffdaf7f3fee17e242c06492cf5527ecce78e586aaa95cf795f4e1369de3203ed122a5eca3c33c343f4863429990eb526509d9e841104d45370ae45700769c639258f99ecc5b6778675e01440f6d1871add4f9edeb76b16305aa7e2294979ccd852a6cf708eae2a6d2d5a8ae157c387526a0ea880cd39d5b8a9500b99be2d1e1c13ef5a90a2192e07d67ee11c1773cf196e1f4008ad49fd17f683ffdcaef7ff86082db3ba3e7c3a4d18eaae50ba4ab2858f947041a227c574e830000003a2bfeb64d5c3292944d3cc3ddb461dea17b72b600000001000000000000000353) 244 false),(.iS (K8 16 0x65657478697320666f20646565732061) 16 false),(n64 1)])
def rp4_1:V:=(.agg [(n64 0),(n64 2),.nS,.nS,(n64 0),(n8 0),(n64 0),(n64 0),(.str []),.nS])
def rp4:V:= .tuple [rp4_0,rp4_1]
def ap4:List V:=[rp3_0,(.agg [(n8 7),(n64 0),(n64 0),(n64 0),(n8 0),(n64 0),(n64 0),(n64 0),(.str []),(.str []),(.str []),.nS,.nS])]
abbrev L4:=(ap3,rp3)::L3
theorem l4:Qfn Tp 6 L4:=Qcx (by kernel_rfl) ans_p3 l3
abbrev K4:=Qxa 6 (Qi3 (Qjd L4)) K3
theorem k4:KOk Tp K4:=Qig (Qh9 l4) k3
theorem ans_p4:Ans Tp 6 ap4 rp4:=Qak (okC k4) (nlC _) (by kernel_rfl:Qry (Qgf Tp (Qlu K4) 1000 (some 6) ap4 F0)=some rp4) (by kernel_rfl)
end
end Go.Proofs.YtpdimkonjmoadaaGreatDoor
end
