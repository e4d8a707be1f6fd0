/- This file holds in one the texts DYpb, DYpc, DYpd; each says at its head what it proves. -/
import Derived.Test.YteagpfbdmiihaaaGreatDoorT28
import Derived.Test.YteagpfbdmiihaaaGreatDoorT39
set_option linter.unusedSimpArgs false
set_option linter.unusedVariables false
namespace Go.Proofs.YteagpfbdmiihaaaGreatDoor
section
open Go.AM Go.AM.BM
set_option maxRecDepth 1000000
noncomputable def rnn_0 : V := (.agg [.nS, .nS, .nS, (n64 0)])
noncomputable def rnn_1 : V := (n64 2)
noncomputable def rnn : V := .tuple [rnn_0, rnn_1]
noncomputable def ann : List V := [.nS]
theorem ans_nn : Ans Tryz.prog 7 ann rnn := Jc (okC noK) (nlC _) (by kernel_rfl : Qfq (X8 Tryz.prog (Qc6 (fun _ => none)) 1000 (some 7) ann F0) = some rnn) (by kernel_rfl)
end
section
open Go.AM Go.AM.BM
set_option maxRecDepth 1000000
noncomputable def bk5 : V := .iS (Jk 256 0xcc12d7398eaccc15000000000000000000000211000000010000000243) 256 true
noncomputable def bk6 : V := .iS (Jk 256 0x100000100010101) 256 true
noncomputable def bk7 : V := .iS (Jk 256 0x3a2bfeb64d5c3292944d3cc3ddb461dea17b72b600000001) 256 true
noncomputable def bk8 : V := .iS (Jk 256 0x1429221f0000000000000000000002100000000000000000000000000000000000000000000000000000000000000000000000000000000000000000000000002dc16d3f00000000000000000000020f00000000000000000100000003000252) 256 true
noncomputable def bl2 : List V := (upT 17 bk8 (upT 16 bk7 (upT 15 bk6 (upT 14 bk1 (upT 2 bk5 (upT 1 bk0 bl1))))))
noncomputable def bk9 : V := .iS (Jk 256 0x10101000000010101010101010101010101) 256 true
noncomputable def rp1_0 : V := (.agg [(.iS [(.iS bl2 256 false), .nS, bk9, (n32 1), (n32 0), (n32 2), (n64 17), (n32 2), (n32 0), (n32 0), (n32 2393689109), (.iS [(n64 15), (n64 16), (n64 17)] 3 false), (.iS [(n64 1), (n8 1), (n64 1), (n64 0), (n32 1), (n32 1), (n64 0), (n64 0), (n32 0), (n32 0), (n32 0), (n32 0), .nS] 1 false), (.iS ((.iS (Jk 24 0x3a2bfeb64d5c3292944d3cc3ddb461dea17b72b600000001) 24 false) :: (Jp 7 .nS [])) 8 false), (.iS ((.iS (Jk 16 0x95607d78f7e34c5956cfb7aa51f85bef) 16 false) :: (Jp 7 .nS [])) 8 false), .nS, (n64 0), (n64 2), (n32 3), (.iS bl1 256 false), .nS, bk2, (n32 2), (n32 0), (n32 1), (n64 14), (n32 1), (n32 0), (n32 0), (n32 3414795990), (.iS [(n64 12), (n64 13), (n64 14)] 3 false), .nS, (.iS (Jp 8 .nS []) 8 false), (.iS (Jp 8 .nS []) 8 false), .nS, (n64 0), (n64 1), (n32 2)] 2 false), .nS, (.iS (Jk 16 0x65657478697320666f20646565732061) 16 false), (n64 0)])
noncomputable def rp1_1 : V := (.agg [(n64 0), (n64 1), .nS, .nS, (n64 0), (n8 0), (n64 0), (n64 0), (.str []), .nS])
noncomputable def rp1 : V := .tuple [rp1_0, rp1_1]
noncomputable def ap1 : List V := [Q3b, (.agg [(n8 1), (n64 0), (n64 0), (n64 0), (n8 1), (n64 0), (n64 0), (n64 0), (.str []), (.str []), (.str [112]), .nS, .nS])]
noncomputable abbrev L1 := (anp, rnp) :: ([] : List (List V × V))
theorem l1 : Xm Tryz.prog 7 L1 := Yc (by kernel_rfl) ans_np Qt3
noncomputable abbrev K1 := Qgx 7 (Qak (Qai L1)) (fun _ => none)
theorem k1 : KOk Tryz.prog K1 := Xc (Xf l1) noK
noncomputable abbrev L2 := (ann, rnn) :: L1
theorem l2 : Xm Tryz.prog 7 L2 := Yc (by kernel_rfl) ans_nn l1
noncomputable abbrev K2 := Qgx 7 (Qak (Qai L2)) K1
theorem k2 : KOk Tryz.prog K2 := Xc (Xf l2) k1
theorem ans_p1 : Ans Tryz.prog 10 ap1 rp1 := Jc (okC k2) (nlC _) (by kernel_rfl : Qfq (X8 Tryz.prog (Qc6 K2) 1000 (some 10) ap1 F0) = some rp1) (by kernel_rfl)
end
section
open Go.AM Go.AM.BM
set_option maxRecDepth 1000000
noncomputable def bk10 : V := .iS (Jk 256 0xe624c64601d01409000000000000000000000411000000010000000443) 256 true
noncomputable def bk11 : V := .iS (Jk 256 0xfa60483d10d0e7700000000000000000000030e000000010000000343) 256 true
noncomputable def bk12 : V := .iS (Jk 256 0x1429221f00000000000000000000030d0000000000000000000000000000000000000000000000000000000000000000000000000000000000000000000000002dc16d3f00000000000000000000030c00000000000000000100000003000252) 256 true
noncomputable def bk13 : V := .iS (Jk 256 0x300000300010202000000000000000000000000000000000000000000000000000000000000000000000000000000000100000302010101) 256 true
noncomputable def bk14 : V := .iS (Jk 256 0x1429221f00000000000000000000041000000000000000000000000000000000000000000000000000000000000000000000000000000000000000000000000073b15e8e00000000000000000000040f00000000000000000200000005000352) 256 true
noncomputable def bl3 : List V := (upT 17 bk14 (upT 15 bk13 (upT 14 bk12 (upT 13 bk7 (upT 12 bk6 (upT 3 bk11 (upT 0 bk10 bl2)))))))
noncomputable def rp2_0 : V := (.agg [(.iS [(.iS bl3 256 false), .nS, bk9, (n32 1), (n32 0), (n32 4), (n64 17), (n32 4), (n32 0), (n32 0), (n32 30413833), (.iS [(n64 15), (n64 16), (n64 17)] 3 false), (.iS [(n64 1), (n8 1), (n64 1), (n64 2), (n32 3), (n32 1), (n64 0), (n64 0), (n32 0), (n32 0), (n32 0), (n32 0), .nS, (n64 2), (n8 2), (n64 1), (n64 0), (n32 3), (n32 3), (n64 0), (n64 0), (n32 0), (n32 0), (n32 0), (n32 0), .nS] 2 false), (.iS ((.iS (Jk 24 0x3a2bfeb64d5c3292944d3cc3ddb461dea17b72b600000001) 24 false) :: (Jp 7 .nS [])) 8 false), (.iS ((.iS (Jk 16 0x95607d78f7e34c5956cfb7aa51f85bef) 16 false) :: (Jp 7 .nS [])) 8 false), .nS, (n64 0), (n64 3), (n32 5), (.iS bl1 256 false), .nS, bk2, (n32 2), (n32 0), (n32 1), (n64 14), (n32 1), (n32 0), (n32 0), (n32 3414795990), (.iS [(n64 12), (n64 13), (n64 14)] 3 false), .nS, (.iS (Jp 8 .nS []) 8 false), (.iS (Jp 8 .nS []) 8 false), .nS, (n64 0), (n64 1), (n32 2)] 2 false), .nS, (.iS (Jk 16 0x65657478697320666f20646565732061) 16 false), (n64 0)])
noncomputable def rp2_1 : V := (.agg [(n64 0), (n64 2), .nS, .nS, (n64 0), (n8 0), (n64 0), (n64 0), (.str []), .nS])
noncomputable def rp2 : V := .tuple [rp2_0, rp2_1]
noncomputable def ap2 : List V := [rp1_0, (.agg [(n8 1), (n64 0), (n64 0), (n64 0), (n8 2), (n64 1), (n64 0), (n64 0), (.str []), (.str []), (.str []), .nS, .nS])]
noncomputable abbrev L3 := (ap1, rp1) :: ([] : List (List V × V))
theorem l3 : Xm Tryz.prog 10 L3 := Yc (by kernel_rfl) ans_p1 Qt3
noncomputable abbrev K3 := Qgx 10 (Qak (Qai L3)) K2
theorem k3 : KOk Tryz.prog K3 := Xc (Xf l3) k2
theorem ans_p2 : Ans Tryz.prog 10 ap2 rp2 := Jc (okC k3) (nlC _) (by kernel_rfl : Qfq (X8 Tryz.prog (Qc6 K3) 1000 (some 10) ap2 F0) = some rp2) (by kernel_rfl)
end
end Go.Proofs.YteagpfbdmiihaaaGreatDoor
