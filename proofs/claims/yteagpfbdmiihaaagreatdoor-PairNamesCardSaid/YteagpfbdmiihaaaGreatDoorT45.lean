/- This file holds in one the texts DYpj, DYpk, DYpl, DYpm, DYpn; each says at its head what it proves. -/
import Derived.Test.YteagpfbdmiihaaaGreatDoorT28
import Derived.Test.YteagpfbdmiihaaaGreatDoorT44
set_option linter.unusedSimpArgs false
set_option linter.unusedVariables false
namespace Go.Proofs.YteagpfbdmiihaaaGreatDoor
section
open Go.AM Go.AM.BM
set_option maxRecDepth 1000000
noncomputable def rw3_0 : V := (.agg [(.iS [(.iS bl3 256 false), .nS, Qvz, (n32 1), (n32 0), (n32 4), (n64 17), (n32 4), (n32 0), (n32 0), (n32 30413833), (.iS [(n64 15), (n64 16), (n64 17)] 3 false), (.iS [(n64 1), (n8 1), (n64 1), (n64 2), (n32 3), (n32 1), (n64 0), (n64 0), (n32 0), (n32 0), (n32 0), (n32 0), .nS, (n64 2), (n8 2), (n64 1), (n64 0), (n32 3), (n32 3), (n64 0), (n64 0), (n32 0), (n32 0), (n32 0), (n32 0), .nS] 2 false), (.iS ((.iS (Jk 24 0x3a2bfeb64d5c3292944d3cc3ddb461dea17b72b600000001) 24 false) :: (Jp 7 .nS [])) 8 false), (.iS ((.iS (Jk 16 0x95607d78f7e34c5956cfb7aa51f85bef) 16 false) :: (Jp 7 .nS [])) 8 false), .nS, (n64 0), (n64 3), (n32 5), (.iS bl1 256 false), .nS, bk2, (n32 2), (n32 0), (n32 1), (n64 14), (n32 1), (n32 0), (n32 0), (n32 3414795990), (.iS [(n64 12), (n64 13), (n64 14)] 3 false), .nS, (.iS (Jp 8 .nS []) 8 false), (.iS (Jp 8 .nS []) 8 false), .nS, (n64 0), (n64 1), (n32 2)] 2 false), (.iS [] 0 false), (.iS (Jk 16 0x65657478697320666f20646565732061) 16 false), (n64 1)])
noncomputable def rw3_1 : V := (.agg [(n64 0), (n64 0), .nS, .nS, (n64 0), (n8 0), (n64 0), (n64 0), (.str []), .nS])
noncomputable def rw3 : V := .tuple [rw3_0, rw3_1]
noncomputable def aw3 : List V := [rw2_0, (.agg [(n8 6), (n64 0), (n64 0), (n64 0), (n8 0), (n64 0), (n64 0), (n64 0), (.str []), (.str []), (.str []), .nS, .nS])]
noncomputable abbrev L9 := (aw2, rw2) :: L8
theorem l9 : Xm Tryz.prog 10 L9 := Yc (by kernel_rfl) ans_w2 l8
noncomputable abbrev K9 := Qgx 10 (Qak (Qai L9)) K8
theorem k9 : KOk Tryz.prog K9 := Xc (Xf l9) k8
theorem ans_w3 : Ans Tryz.prog 10 aw3 rw3 := Jc (okC k9) (nlC _) (by kernel_rfl : Qfq (X8 Tryz.prog (Qc6 K9) 1000 (some 10) aw3 F0) = some rw3) (by kernel_rfl)
end
section
open Go.AM Go.AM.BM
set_option maxRecDepth 1000000
noncomputable def rw4_0 : V := (.agg [(.iS [(.iS bl3 256 false), .nS, Qvz, (n32 1), (n32 0), (n32 4), (n64 17), (n32 4), (n32 0), (n32 0), (n32 30413833), (.iS [(n64 15), (n64 16), (n64 17)] 3 false), (.iS [(n64 1), (n8 1), (n64 1), (n64 2), (n32 3), (n32 1), (n64 0), (n64 0), (n32 0), (n32 0), (n32 0), (n32 0), .nS, (n64 2), (n8 2), (n64 1), (n64 0), (n32 3), (n32 3), (n64 0), (n64 0), (n32 0), (n32 0), (n32 0), (n32 0), .nS] 2 false), (.iS ((.iS (Jk 24 0x3a2bfeb64d5c3292944d3cc3ddb461dea17b72b600000001) 24 false) :: (Jp 7 .nS [])) 8 false), (.iS ((.iS (Jk 16 0x95607d78f7e34c5956cfb7aa51f85bef) 16 false) :: (Jp 7 .nS [])) 8 false), .nS, (n64 0), (n64 3), (n32 5), (.iS bl1 256 false), .nS, bk2, (n32 2), (n32 0), (n32 1), (n64 14), (n32 1), (n32 0), (n32 0), (n32 3414795990), (.iS [(n64 12), (n64 13), (n64 14)] 3 false), .nS, (.iS (Jp 8 .nS []) 8 false), (.iS (Jp 8 .nS []) 8 false), .nS, (n64 0), (n64 1), (n32 2)] 2 false), (.iS [] 0 true), (.iS (Jk 16 0x65657478697320666f20646565732061) 16 false), (n64 1)])
noncomputable def rw4_1 : V := (.agg [(n64 6), (n64 0), .nS, .nS, (n64 0), (n8 0), (n64 0), (n64 0), (.str []), .nS])
noncomputable def rw4 : V := .tuple [rw4_0, rw4_1]
noncomputable def aw4 : List V := [rw3_0, (.agg [(n8 7), (n64 0), (n64 0), (n64 0), (n8 0), (n64 0), (n64 0), (n64 0), (.str []), (.str []), (.str []), .nS, .nS])]
noncomputable abbrev L10 := (aw3, rw3) :: L9
theorem l10 : Xm Tryz.prog 10 L10 := Yc (by kernel_rfl) ans_w3 l9
noncomputable abbrev K10 := Qgx 10 (Qak (Qai L10)) K9
theorem k10 : KOk Tryz.prog K10 := Xc (Xf l10) k9
theorem ans_w4 : Ans Tryz.prog 10 aw4 rw4 := Jc (okC k10) (nlC _) (by kernel_rfl : Qfq (X8 Tryz.prog (Qc6 K10) 1000 (some 10) aw4 F0) = some rw4) (by kernel_rfl)
end
section
open Go.AM Go.AM.BM
set_option maxRecDepth 1000000
noncomputable def ru1_0 : V := (.agg [(.iS [(.iS bl0 256 false), .nS, bk2, (n32 1), (n32 0), (n32 1), (n64 14), (n32 1), (n32 0), (n32 0), (n32 3980906072), (.iS [(n64 12), (n64 13), (n64 14)] 3 false), .nS, (.iS (Jp 8 .nS []) 8 false), (.iS (Jp 8 .nS []) 8 false), .nS, (n64 0), (n64 1), (n32 1), (.iS bl1 256 false), .nS, bk2, (n32 2), (n32 0), (n32 1), (n64 14), (n32 1), (n32 0), (n32 0), (n32 3414795990), (.iS [(n64 12), (n64 13), (n64 14)] 3 false), .nS, (.iS (Jp 8 .nS []) 8 false), (.iS (Jp 8 .nS []) 8 false), .nS, (n64 0), (n64 1), (n32 2)] 2 false), .nS, (.iS (Jk 16 0x65657478697320666f20646565732061) 16 false), (n64 0)])
noncomputable def ru1_1 : V := (.agg [(n64 2), (n64 0), .nS, .nS, (n64 0), (n8 0), (n64 0), (n64 0), (.str []), .nS])
noncomputable def ru1 : V := .tuple [ru1_0, ru1_1]
noncomputable def au1 : List V := [Q3b, (.agg [(n8 0), (n64 0), (n64 0), (n64 0), (n8 0), (n64 0), (n64 0), (n64 0), (.str []), (.str []), (.str []), .nS, .nS])]
noncomputable abbrev L11 := (aw4, rw4) :: L10
theorem l11 : Xm Tryz.prog 10 L11 := Yc (by kernel_rfl) ans_w4 l10
noncomputable abbrev K11 := Qgx 10 (Qak (Qai L11)) K10
theorem k11 : KOk Tryz.prog K11 := Xc (Xf l11) k10
theorem ans_u1 : Ans Tryz.prog 10 au1 ru1 := Jc (okC k11) (nlC _) (by kernel_rfl : Qfq (X8 Tryz.prog (Qc6 K11) 1000 (some 10) au1 F0) = some ru1) (by kernel_rfl)
end
section
open Go.AM Go.AM.BM
set_option maxRecDepth 1000000
noncomputable def ru2_0 : V := (.agg [(.iS [(.iS bl0 256 false), .nS, bk2, (n32 1), (n32 0), (n32 1), (n64 14), (n32 1), (n32 0), (n32 0), (n32 3980906072), (.iS [(n64 12), (n64 13), (n64 14)] 3 false), .nS, (.iS (Jp 8 .nS []) 8 false), (.iS (Jp 8 .nS []) 8 false), .nS, (n64 0), (n64 1), (n32 1), (.iS bl1 256 false), .nS, bk2, (n32 2), (n32 0), (n32 1), (n64 14), (n32 1), (n32 0), (n32 0), (n32 3414795990), (.iS [(n64 12), (n64 13), (n64 14)] 3 false), .nS, (.iS (Jp 8 .nS []) 8 false), (.iS (Jp 8 .nS []) 8 false), .nS, (n64 0), (n64 1), (n32 2)] 2 false), .nS, (.iS (Jk 16 0x65657478697320666f20646565732061) 16 false), (n64 0)])
noncomputable def ru2_1 : V := (.agg [(n64 2), (n64 0), .nS, .nS, (n64 0), (n8 0), (n64 0), (n64 0), (.str []), .nS])
noncomputable def ru2 : V := .tuple [ru2_0, ru2_1]
noncomputable def au2 : List V := [ru1_0, (.agg [(n8 1), (n64 2), (n64 0), (n64 0), (n8 0), (n64 0), (n64 0), (n64 0), (.str []), (.str []), (.str []), .nS, .nS])]
noncomputable abbrev L12 := (au1, ru1) :: L11
theorem l12 : Xm Tryz.prog 10 L12 := Yc (by kernel_rfl) ans_u1 l11
noncomputable abbrev K12 := Qgx 10 (Qak (Qai L12)) K11
theorem k12 : KOk Tryz.prog K12 := Xc (Xf l12) k11
theorem ans_u2 : Ans Tryz.prog 10 au2 ru2 := Jc (okC k12) (nlC _) (by kernel_rfl : Qfq (X8 Tryz.prog (Qc6 K12) 1000 (some 10) au2 F0) = some ru2) (by kernel_rfl)
end
section
open Go.AM Go.AM.BM
set_option maxRecDepth 1000000
noncomputable def ru3_0 : V := (.agg [(.iS [(.iS bl0 256 false), .nS, bk2, (n32 1), (n32 0), (n32 1), (n64 14), (n32 1), (n32 0), (n32 0), (n32 3980906072), (.iS [(n64 12), (n64 13), (n64 14)] 3 false), .nS, (.iS (Jp 8 .nS []) 8 false), (.iS (Jp 8 .nS []) 8 false), .nS, (n64 0), (n64 1), (n32 1), (.iS bl1 256 false), .nS, bk2, (n32 2), (n32 0), (n32 1), (n64 14), (n32 1), (n32 0), (n32 0), (n32 3414795990), (.iS [(n64 12), (n64 13), (n64 14)] 3 false), .nS, (.iS (Jp 8 .nS []) 8 false), (.iS (Jp 8 .nS []) 8 false), .nS, (n64 0), (n64 1), (n32 2)] 2 false), .nS, (.iS (Jk 16 0x65657478697320666f20646565732061) 16 false), (n64 0)])
noncomputable def ru3_1 : V := (.agg [(n64 2), (n64 0), .nS, .nS, (n64 0), (n8 0), (n64 0), (n64 0), (.str []), .nS])
noncomputable def ru3 : V := .tuple [ru3_0, ru3_1]
noncomputable def au3 : List V := [ru2_0, (.agg [(n8 5), (n64 0), (.int .i64 (Int.negSucc 0)), (n64 0), (n8 0), (n64 0), (n64 0), (n64 0), (.str []), (.str []), (.str []), .nS, .nS])]
noncomputable abbrev L13 := (au2, ru2) :: L12
theorem l13 : Xm Tryz.prog 10 L13 := Yc (by kernel_rfl) ans_u2 l12
noncomputable abbrev K13 := Qgx 10 (Qak (Qai L13)) K12
theorem k13 : KOk Tryz.prog K13 := Xc (Xf l13) k12
theorem ans_u3 : Ans Tryz.prog 10 au3 ru3 := Jc (okC k13) (nlC _) (by kernel_rfl : Qfq (X8 Tryz.prog (Qc6 K13) 1000 (some 10) au3 F0) = some ru3) (by kernel_rfl)
end
end Go.Proofs.YteagpfbdmiihaaaGreatDoor
