/- This file holds in one the texts DYtc; each says at its head what it proves. -/
import Derived.Test.YtpdimkonjmoadaaGreatDoorT19
import Derived.Test.YtpdimkonjmoadaaGreatDoorT28
set_option linter.unusedSimpArgs false
set_option linter.unusedVariables false
noncomputable section
namespace Go.Proofs.YtpdimkonjmoadaaGreatDoor
section
open Go.AM Go.AM.BM
set_option maxRecDepth 1000000
def bk10:V:= .iS (K8 256 0xe624c64601d01409000000000000000000000411000000010000000443) 256 true
def bk11:V:= .iS (K8 256 0xfa60483d10d0e7700000000000000000000030e000000010000000343) 256 true
def bk12:V:= .iS (K8 256 0x1429221f00000000000000000000030d0000000000000000000000000000000000000000000000000000000000000000000000000000000000000000000000002dc16d3f00000000000000000000030c00000000000000000100000003000252) 256 true
def bk13:V:= .iS (K8 256 0x300000300010202000000000000000000000000000000000000000000000000000000000000000000000000000000000100000302010101) 256 true
def bk14:V:= .iS (K8 256 0x1429221f00000000000000000000041000000000000000000000000000000000000000000000000000000000000000000000000000000000000000000000000073b15e8e00000000000000000000040f00000000000000000200000005000352) 256 true
def bl3:List V:=(upT 17 bk14 (upT 15 bk13 (upT 14 bk12 (upT 13 bk7 (upT 12 bk6 (upT 3 bk11 (upT 0 bk10 bl2)))))))
def rp2_0:V:=(.agg [(.iS [(.iS bl3 256 false),.nS,bk9,(n32 1),(n32 0),(n32 4),(n64 17),(n32 4),(n32 0),(n32 0),(n32 30413833),(.iS [(n64 15),(n64 16),(n64 17)] 3 false),(.iS [(n64 1),(n8 1),(n64 1),(n64 2),(n32 3),(n32 1),(n64 0),(n64 0),(n32 0),(n32 0),(n32 0),(n32 0),.nS,(n64 2),(n8 2),(n64 1),(n64 0),(n32 3),(n32 3),(n64 0),(n64 0),(n32 0),(n32 0),(n32 0),(n32 0),.nS] 2 false),(.iS ((.iS (K8 24 0x3a2bfeb64d5c3292944d3cc3ddb461dea17b72b600000001) 24 false)::(Qbf 7 .nS [])) 8 false),(.iS ((.iS (K8 16 0x95607d78f7e34c5956cfb7aa51f85bef) 16 false)::(Qbf 7 .nS [])) 8 false),.nS,(n64 0),(n64 3),(n32 5),(.iS bl1 256 false),.nS,bk2,(n32 2),(n32 0),(n32 1),(n64 14),(n32 1),(n32 0),(n32 0),(n32 3414795990),(.iS [(n64 12),(n64 13),(n64 14)] 3 false),.nS,(.iS (Qbf 8 .nS []) 8 false),(.iS (Qbf 8 .nS []) 8 false),.nS,(n64 0),(n64 1),(n32 2)] 2 false),.nS,(.iS (K8 16 0x65657478697320666f20646565732061) 16 false),(n64 0)])
def rp2_1:V:=(.agg [(n64 0),(n64 2),.nS,.nS,(n64 0),(n8 0),(n64 0),(n64 0),(.str []),.nS])
def rp2:V:= .tuple [rp2_0,rp2_1]
def ap2:List V:=[rp1_0,(.agg [(n8 1),(n64 0),(n64 0),(n64 0),(n8 2),(n64 1),(n64 0),(n64 0),(.str []),(.str []),(.str []),.nS,.nS])]
abbrev L2:=(ap1,rp1)::([]:List (List V×V))
theorem l2:Qfn Tp 6 L2:=Qcx (by kernel_rfl) ans_p1 Qzc
abbrev K2:=Qxa 6 (Qi3 (Qjd L2)) K1
theorem k2:KOk Tp K2:=Qig (Qh9 l2) k1
theorem ans_p2:Ans Tp 6 ap2 rp2:=Qak (okC k2) (nlC _) (by kernel_rfl:Qry (Qgf Tp (Qlu K2) 1000 (some 6) ap2 F0)=some rp2) (by kernel_rfl)
end
end Go.Proofs.YtpdimkonjmoadaaGreatDoor
end
