/- This file holds in one the texts DYcb, DYcc, DYcd, DYce, DYcf, DYcg, DYch, DYci, DYcj, DYck, DYcl; each says at its head what it proves. -/
import Derived.Test.YtgnnlchhfiomgaaGreatDoorT28
import Derived.Test.YtgnnlchhfiomgaaGreatDoorT39
set_option linter.unusedSimpArgs false
set_option linter.unusedVariables false
namespace Go.Proofs.YtgnnlchhfiomgaaGreatDoor
section
open Go.AM Go.AM.BM
set_option maxRecDepth 1000000
noncomputable def bk3 : V := .iS (Yj 256 0xcc12d7398eaccc15000000000000000000000211000000010000000243) 256 true
noncomputable def bk4 : V := .iS (Yj 256 0x100000100010101) 256 true
noncomputable def bk5 : V := .iS (Yj 256 0x3a2bfeb64d5c3292944d3cc3ddb461dea17b72b600000001) 256 true
noncomputable def bk6 : V := .iS (Yj 256 0x1429221f0000000000000000000002100000000000000000000000000000000000000000000000000000000000000000000000000000000000000000000000002dc16d3f00000000000000000000020f00000000000000000100000003000252) 256 true
noncomputable def bl1 : List V := (upT 17 bk6 (upT 16 bk5 (upT 15 bk4 (upT 2 bk3 bl0))))
noncomputable def bk7 : V := .iS (Yj 256 0x10101000000010101010101010101010101) 256 true
noncomputable def ry1_0 : V := (.agg [(.iS bl1 256 false), .nS, bk7, (n32 1), (n32 0), (n32 2), (n64 17), (n32 2), (n32 0), (n32 0), (n32 2393689109), (.iS [(n64 15), (n64 16), (n64 17)] 3 false), (.iS [(n64 1), (n8 1), (n64 1), (n64 0), (n32 1), (n32 1), (n64 0), (n64 0), (n32 0), (n32 0), (n32 0), (n32 0), .nS] 1 false), (.iS ((.iS (Yj 24 0x3a2bfeb64d5c3292944d3cc3ddb461dea17b72b600000001) 24 false) :: (Qa2 7 .nS [])) 8 false), (.iS ((.iS (Yj 16 0x95607d78f7e34c5956cfb7aa51f85bef) 16 false) :: (Qa2 7 .nS [])) 8 false), .nS, (n64 0), (n64 2), (n32 3)])
noncomputable def ry1_1 : V := (.agg [(n64 0), (n64 1), .nS, .nS, (n64 0), (n8 0), (n64 0), (n64 0), (.str []), .nS])
noncomputable def ry1 : V := .tuple [ry1_0, ry1_1]
noncomputable def ay1 : List V := [rfm_0, (.agg [(n8 1), (n64 0), (n64 0), (n64 0), (.str []), (.str []), (.str [112]), .nS])]
noncomputable abbrev L1 := (afm, rfm) :: ([] : List (List V × V))
theorem l1 : Bm Tryz.prog 9 L1 := Ys (by kernel_rfl) ans_fm Qn1
noncomputable abbrev K1 := Qim 9 (Qbe (Qbf L1)) (fun _ => none)
theorem k1 : KOk Tryz.prog K1 := Bd (X8 l1) noK
theorem ans_y1 : Ans Tryz.prog 7 ay1 ry1 := J5 (okC k1) (nlC _) (by kernel_rfl : Qhx (Bt Tryz.prog (Qej K1) 1000 (some 7) ay1 F0) = some ry1) (by kernel_rfl)
end
section
open Go.AM Go.AM.BM
set_option maxRecDepth 1000000
noncomputable def bk8 : V := .iS (Yj 256 0x10101000000010101010101010101010101) 256 false
noncomputable def bk9 : V := .iS (Yj 256 0x610101) 256 true
noncomputable def ry2_0 : V := (.agg [(.iS bl1 256 false), .nS, bk8, (n32 1), (n32 0), (n32 2), (n64 17), (n32 2), (n32 0), (n32 0), (n32 2393689109), (.iS [(n64 15), (n64 16), (n64 17)] 3 false), (.iS [(n64 1), (n8 1), (n64 1), (n64 0), (n32 1), (n32 1), (n64 0), (n64 0), (n32 0), (n32 0), (n32 0), (n32 0), .nS] 1 false), (.iS ((.iS (Yj 24 0x3a2bfeb64d5c3292944d3cc3ddb461dea17b72b600000001) 24 false) :: (Qa2 7 .nS [])) 8 false), (.iS ((.iS (Yj 16 0x95607d78f7e34c5956cfb7aa51f85bef) 16 false) :: (Qa2 7 .nS [])) 8 false), (.iS [(n64 1), (n64 0), (n64 0), (n8 0), (n64 0), (n64 0), bk9, (n64 0), (n32 0), (n32 0), (n32 0), (n32 0), (n64 1), (n64 0), (n64 15), (n8 2), (n64 1), (n64 16), .nS, (n64 0), (n32 0), (n32 0), (n32 0), (n32 0), (n64 1), (n64 1), (n64 15), (n8 1), (n64 1), (n64 0), .nS, (n64 0), (n32 0), (n32 0), (n32 0), (n32 0)] 3 false), (n64 0), (n64 2), (n32 3)])
noncomputable def ry2_1 : V := (.agg [(n64 0), (n64 0), .nS, .nS, (n64 0), (n8 0), (n64 0), (n64 0), (.str []), .nS])
noncomputable def ry2 : V := .tuple [ry2_0, ry2_1]
noncomputable def ay2 : List V := [ry1_0, (.agg [(n8 9), (n64 1), (n64 0), (n64 0), (.str [97]), (.str []), (.str []), .nS])]
noncomputable abbrev L2 := (ay1, ry1) :: ([] : List (List V × V))
theorem l2 : Bm Tryz.prog 7 L2 := Ys (by kernel_rfl) ans_y1 Qn1
noncomputable abbrev K2 := Qim 7 (Qbe (Qbf L2)) K1
theorem k2 : KOk Tryz.prog K2 := Bd (X8 l2) k1
theorem ans_y2 : Ans Tryz.prog 7 ay2 ry2 := J5 (okC k2) (nlC _) (by kernel_rfl : Qhx (Bt Tryz.prog (Qej K2) 1000 (some 7) ay2 F0) = some ry2) (by kernel_rfl)
end
section
open Go.AM Go.AM.BM
set_option maxRecDepth 1000000
noncomputable def bk10 : V := .iS (Yj 256 0x610101) 256 false
noncomputable def bk11 : V := .iS (Yj 256 0x780000) 256 false
noncomputable def ry3_0 : V := (.agg [(.iS bl1 256 false), .nS, bk8, (n32 1), (n32 0), (n32 2), (n64 17), (n32 2), (n32 0), (n32 0), (n32 2393689109), (.iS [(n64 15), (n64 16), (n64 17)] 3 false), (.iS [(n64 1), (n8 1), (n64 1), (n64 0), (n32 1), (n32 1), (n64 0), (n64 0), (n32 0), (n32 0), (n32 0), (n32 0), .nS] 1 false), (.iS ((.iS (Yj 24 0x3a2bfeb64d5c3292944d3cc3ddb461dea17b72b600000001) 24 false) :: (Qa2 7 .nS [])) 8 false), (.iS ((.iS (Yj 16 0x95607d78f7e34c5956cfb7aa51f85bef) 16 false) :: (Qa2 7 .nS [])) 8 false), (.iS [(n64 1), (n64 0), (n64 0), (n8 0), (n64 0), (n64 0), bk10, (n64 0), (n32 0), (n32 0), (n32 0), (n32 0), (n64 1), (n64 0), (n64 15), (n8 2), (n64 1), (n64 16), .nS, (n64 0), (n32 0), (n32 0), (n32 0), (n32 0), (n64 1), (n64 1), (n64 0), (n8 0), (n64 0), (n64 0), bk11, (n64 0), (n32 0), (n32 0), (n32 0), (n32 0), (n64 1), (n64 1), (n64 15), (n8 1), (n64 1), (n64 3), .nS, (n64 0), (n32 0), (n32 0), (n32 0), (n32 0)] 4 false), (n64 0), (n64 2), (n32 3)])
noncomputable def ry3_1 : V := (.agg [(n64 0), (n64 0), .nS, .nS, (n64 0), (n8 0), (n64 0), (n64 0), (.str []), .nS])
noncomputable def ry3 : V := .tuple [ry3_0, ry3_1]
noncomputable def ay3 : List V := [ry2_0, (.agg [(n8 15), (n64 1), (n64 0), (n64 2), (.str [97]), (.str []), (.str []), (.iS (Yj 1 0x78) 1 true)])]
noncomputable abbrev L3 := (ay2, ry2) :: L2
theorem l3 : Bm Tryz.prog 7 L3 := Ys (by kernel_rfl) ans_y2 l2
noncomputable abbrev K3 := Qim 7 (Qbe (Qbf L3)) K2
theorem k3 : KOk Tryz.prog K3 := Bd (X8 l3) k2
theorem ans_y3 : Ans Tryz.prog 7 ay3 ry3 := J5 (okC k3) (nlC _) (by kernel_rfl : Qhx (Bt Tryz.prog (Qej K3) 1000 (some 7) ay3 F0) = some ry3) (by kernel_rfl)
end
section
open Go.AM Go.AM.BM
set_option maxRecDepth 1000000
noncomputable def ry4_0 : V := (.agg [(.iS bl1 256 false), .nS, bk8, (n32 1), (n32 0), (n32 2), (n64 17), (n32 2), (n32 0), (n32 0), (n32 2393689109), (.iS [(n64 15), (n64 16), (n64 17)] 3 false), (.iS [(n64 1), (n8 1), (n64 1), (n64 0), (n32 1), (n32 1), (n64 0), (n64 0), (n32 0), (n32 0), (n32 0), (n32 0), .nS] 1 false), (.iS ((.iS (Yj 24 0x3a2bfeb64d5c3292944d3cc3ddb461dea17b72b600000001) 24 false) :: (Qa2 7 .nS [])) 8 false), (.iS ((.iS (Yj 16 0x95607d78f7e34c5956cfb7aa51f85bef) 16 false) :: (Qa2 7 .nS [])) 8 false), (.iS [(n64 1), (n64 0), (n64 0), (n8 0), (n64 0), (n64 0), bk10, (n64 0), (n32 0), (n32 0), (n32 0), (n32 0), (n64 1), (n64 0), (n64 15), (n8 2), (n64 1), (n64 16), .nS, (n64 0), (n32 0), (n32 0), (n32 0), (n32 0), (n64 1), (n64 1), (n64 0), (n8 0), (n64 0), (n64 0), bk11, (n64 0), (n32 0), (n32 0), (n32 0), (n32 0), (n64 1), (n64 1), (n64 15), (n8 1), (n64 1), (n64 3), .nS, (n64 0), (n32 0), (n32 0), (n32 0), (n32 0)] 4 false), (n64 0), (n64 2), (n32 3)])
noncomputable def ry4_1 : V := (.agg [(n64 0), (n64 0), (.iS (Yj 3 0x780000) 3 false), .nS, (n64 0), (n8 0), (n64 0), (n64 0), (.str []), .nS])
noncomputable def ry4 : V := .tuple [ry4_0, ry4_1]
noncomputable def ay4 : List V := [ry3_0, (.agg [(n8 14), (n64 1), (n64 9), (n64 0), (.str [97]), (.str []), (.str []), .nS])]
noncomputable abbrev L4 := (ay3, ry3) :: L3
theorem l4 : Bm Tryz.prog 7 L4 := Ys (by kernel_rfl) ans_y3 l3
noncomputable abbrev K4 := Qim 7 (Qbe (Qbf L4)) K3
theorem k4 : KOk Tryz.prog K4 := Bd (X8 l4) k3
theorem ans_y4 : Ans Tryz.prog 7 ay4 ry4 := J5 (okC k4) (nlC _) (by kernel_rfl : Qhx (Bt Tryz.prog (Qej K4) 1000 (some 7) ay4 F0) = some ry4) (by kernel_rfl)
end
section
open Go.AM Go.AM.BM
set_option maxRecDepth 1000000
noncomputable def bk12 : V := .iS (Yj 256 0xc68790481669e038000000000000000000000316000000010000000343) 256 true
noncomputable def bk13 : V := .iS (Yj 256 0xb006b37f5f5e926a10f819e1a4a6d8fc29dad61d8f85ea49335b7b8d391e0f154012a411898d0e0f90b9146e136b974e14cb1df483ad5498d217930adb6199ecc3d2bb1d50b1f39ce91876bf7e15e602b8f36e120f9efbf6086bffae6555706eb225732653654b566840e3821a423c20ce16ad0d9b7daca04efa1f79df8608f9110e34e6445d3d73d731d19448f5f4932a19356b7e9bf70fb38ec1efdbe7b8778144e615d467506b0b8931522ff406d1f99aecd7c8f9cb4fe0f42b8c2daa9d1e7a32f02b12086a656341da25368fe66f558ca23d5d8405dbfde88483c342eec1a5073eea1ff45c7dad170139ccecb2e830b5d9e79dde52ff278bbaba35019b74) 256 true
noncomputable def bk14 : V := .iS (Yj 256 0xbbe0913cadf06618000100010000030c00000000000000000000000000100102) 256 true
noncomputable def bk15 : V := .iS (Yj 256 0xf500b9790a92313740c0cd87a7e81bff3228552da13374d01b2ba2aea7527fd4b83ea3a4d8ff50b8120c5f03e9c2645ff365bed68586a586c4e6576f239cf2e3bf4b38586fa80a620dc02f385ced3182935e0cd9d9946c81e5bb57eb861afe8f5cf9f358d99a931c0d80b4195177a07d11481596478a6be6bfd77a3004a6ef53562811a43321f302a48b1d681c771f3e743a258aa754c217da96996699edba4574a82a79ba988b60052243b0b97bc2431d9418da3eaa92f12660dca646d424c831c510bd43011c642fdad5d26ab443ff25cc7522ea2d12706b4a2d2b6669492dd71d06f9f3f490919568d398cee706e7199ff9b071efbd3339ce5dfdb2153c07) 256 true
noncomputable def bk16 : V := .iS (Yj 256 0x7ba93b53a48a9caf000100020000030e00000000000000000000000000030101) 256 true
noncomputable def bk17 : V := .iS (Yj 256 0xebabbb21000000000000000000000312fca5441200000000000000000000030d) 256 true
noncomputable def bk18 : V := .iS (Yj 256 0xe0ad881000000000000000000000313000000000100000100010101) 256 true
noncomputable def bk19 : V := .iS (Yj 256 0x1429221f000000000000000000000315000000000000000000000000000000000000000000000000000000000000000000000000000000000000000000000000a5360da400000000000000000000031400000000000000000100000003000252) 256 true
noncomputable def bl2 : List V := (upT 22 bk19 (upT 21 bk5 (upT 20 bk18 (upT 19 bk17 (upT 18 bk16 (upT 14 bk15 (upT 13 bk14 (upT 12 bk13 (upT 3 bk12 bl1)))))))))
noncomputable def bk20 : V := .iS (Yj 256 0x101010101000000010101010101010101010101010101) 256 true
noncomputable def ry5_0 : V := (.agg [(.iS bl2 256 false), .nS, bk20, (n32 1), (n32 2), (n32 3), (n64 22), (n32 3), (n32 0), (n32 0), (n32 376037432), (.iS [(n64 20), (n64 21), (n64 22)] 3 false), (.iS [(n64 1), (n8 1), (n64 1), (n64 0), (n32 1), (n32 1), (n64 0), (n64 19), (n32 3), (n32 0), (n32 0), (n32 235591809), .nS] 1 false), (.iS ((.iS (Yj 24 0x3a2bfeb64d5c3292944d3cc3ddb461dea17b72b600000001) 24 false) :: (Qa2 7 .nS [])) 8 false), (.iS ((.iS (Yj 16 0x95607d78f7e34c5956cfb7aa51f85bef) 16 false) :: (Qa2 7 .nS [])) 8 false), .nS, (n64 0), (n64 2), (n32 3)])
noncomputable def ry5_1 : V := (.agg [(n64 0), (n64 0), .nS, .nS, (n64 0), (n8 0), (n64 0), (n64 0), (.str []), .nS])
noncomputable def ry5 : V := .tuple [ry5_0, ry5_1]
noncomputable def ay5 : List V := [ry4_0, (.agg [(n8 21), (n64 0), (n64 0), (n64 0), (.str []), (.str []), (.str []), .nS])]
noncomputable abbrev L5 := (ay4, ry4) :: L4
theorem l5 : Bm Tryz.prog 7 L5 := Ys (by kernel_rfl) ans_y4 l4
noncomputable abbrev K5 := Qim 7 (Qbe (Qbf L5)) K4
theorem k5 : KOk Tryz.prog K5 := Bd (X8 l5) k4
theorem ans_y5 : Ans Tryz.prog 7 ay5 ry5 := J5 (okC k5) (nlC _) (by kernel_rfl : Qhx (Bt Tryz.prog (Qej K5) 1000 (some 7) ay5 F0) = some ry5) (by kernel_rfl)
end
section
open Go.AM Go.AM.BM
set_option maxRecDepth 1000000
noncomputable def bk21 : V := .iS (Yj 256 0x444d40389f578c8f000000000000000000000411000000030000000443) 256 true
noncomputable def bk22 : V := .iS (Yj 256 0x1429221f000000000000000000000410000000000000000000000000000000000000000000000000000000000000000000000000000000000000000000000000a5360da400000000000000000000040f00000000000000000100000003000252) 256 true
noncomputable def bl3 : List V := (upT 17 bk22 (upT 15 bk18 (upT 0 bk21 bl2)))
noncomputable def bk23 : V := .iS (Yj 256 0x101010101010101010101010101010101010101) 256 true
noncomputable def rcr_0 : V := (.agg [(.iS bl3 256 false), .nS, bk23, (n32 3), (n32 0), (n32 4), (n64 17), (n32 4), (n32 0), (n32 0), (n32 2673314959), (.iS [(n64 15), (n64 16), (n64 17)] 3 false), (.iS [(n64 1), (n8 1), (n64 1), (n64 0), (n32 1), (n32 1), (n64 0), (n64 19), (n32 3), (n32 0), (n32 0), (n32 235591809), .nS] 1 false), (.iS ((.iS (Yj 24 0x3a2bfeb64d5c3292944d3cc3ddb461dea17b72b600000001) 24 false) :: (Qa2 7 .nS [])) 8 false), (.iS (Qa2 8 .nS []) 8 false), .nS, (n64 0), (n64 2), (n32 3)])
noncomputable def rcr_1 : V := (n64 0)
noncomputable def rcr : V := .tuple [rcr_0, rcr_1]
noncomputable def acr : List V := [ry5_0, .nS]
noncomputable abbrev L6 := (ay5, ry5) :: L5
theorem l6 : Bm Tryz.prog 7 L6 := Ys (by kernel_rfl) ans_y5 l5
noncomputable abbrev K6 := Qim 7 (Qbe (Qbf L6)) K5
theorem k6 : KOk Tryz.prog K6 := Bd (X8 l6) k5
theorem ans_cr : Ans Tryz.prog 6 acr rcr := J5 (okC k6) (nlC _) (by kernel_rfl : Qhx (Bt Tryz.prog (Qej K6) 1000 (some 6) acr F0) = some rcr) (by kernel_rfl)
end
section
open Go.AM Go.AM.BM
set_option maxRecDepth 1000000
noncomputable def bk24 : V := .iS (Yj 256 0x101010101010101010101010101010101010101) 256 false
noncomputable def Qvl : V := (.agg [(.iS bl3 256 false), .nS, bk24, (n32 3), (n32 0), (n32 4), (n64 17), (n32 4), (n32 0), (n32 0), (n32 2673314959), (.iS [(n64 15), (n64 16), (n64 17)] 3 false), (.iS [(n64 1), (n8 1), (n64 1), (n64 0), (n32 1), (n32 1), (n64 0), (n64 19), (n32 3), (n32 0), (n32 0), (n32 235591809), .nS] 1 false), (.iS ((.iS (Yj 24 0x3a2bfeb64d5c3292944d3cc3ddb461dea17b72b600000001) 24 false) :: (Qa2 7 .nS [])) 8 false), (.iS ((.iS (Yj 16 0x95607d78f7e34c5956cfb7aa51f85bef) 16 false) :: (Qa2 7 .nS [])) 8 false), .nS, (n64 0), (n64 2), (n32 3)])
noncomputable def rld_1 : V := (.agg [(n64 0), (n64 0), .nS, .nS, (n64 0), (n8 0), (n64 0), (n64 0), (.str []), .nS])
noncomputable def rld : V := .tuple [Qvl, rld_1]
noncomputable def ald : List V := [rcr_0, (.agg [(n8 7), (n64 1), (n64 0), (n64 0), (.str []), (.str []), (.str [112]), .nS])]
noncomputable abbrev L7 := (acr, rcr) :: ([] : List (List V × V))
theorem l7 : Bm Tryz.prog 6 L7 := Ys (by kernel_rfl) ans_cr Qn1
noncomputable abbrev K7 := Qim 6 (Qbe (Qbf L7)) K6
theorem k7 : KOk Tryz.prog K7 := Bd (X8 l7) k6
theorem ans_ld : Ans Tryz.prog 7 ald rld := J5 (okC k7) (nlC _) (by kernel_rfl : Qhx (Bt Tryz.prog (Qej K7) 1000 (some 7) ald F0) = some rld) (by kernel_rfl)
end
section
open Go.AM Go.AM.BM
set_option maxRecDepth 1000000
noncomputable def rli_0 : V := (.agg [(.iS bl3 256 false), .nS, bk24, (n32 3), (n32 0), (n32 4), (n64 17), (n32 4), (n32 0), (n32 0), (n32 2673314959), (.iS [(n64 15), (n64 16), (n64 17)] 3 false), (.iS [(n64 1), (n8 1), (n64 1), (n64 0), (n32 1), (n32 1), (n64 0), (n64 19), (n32 3), (n32 0), (n32 0), (n32 235591809), .nS] 1 false), (.iS ((.iS (Yj 24 0x3a2bfeb64d5c3292944d3cc3ddb461dea17b72b600000001) 24 false) :: (Qa2 7 .nS [])) 8 false), (.iS ((.iS (Yj 16 0x95607d78f7e34c5956cfb7aa51f85bef) 16 false) :: (Qa2 7 .nS [])) 8 false), .nS, (n64 0), (n64 2), (n32 3)])
noncomputable def rli_1 : V := (.agg [(n64 0), (n64 0), .nS, (.iS [(.str [97])] 1 false), (n64 0), (n8 0), (n64 0), (n64 0), (.str []), .nS])
noncomputable def rli : V := .tuple [rli_0, rli_1]
noncomputable def ali : List V := [Qvl, (.agg [(n8 18), (n64 1), (n64 0), (n64 0), (.str []), (.str []), (.str []), .nS])]
noncomputable abbrev L8 := (ald, rld) :: L6
theorem l8 : Bm Tryz.prog 7 L8 := Ys (by kernel_rfl) ans_ld l6
noncomputable abbrev K8 := Qim 7 (Qbe (Qbf L8)) K7
theorem k8 : KOk Tryz.prog K8 := Bd (X8 l8) k7
theorem ans_li : Ans Tryz.prog 7 ali rli := J5 (okC k8) (nlC _) (by kernel_rfl : Qhx (Bt Tryz.prog (Qej K8) 1000 (some 7) ali F0) = some rli) (by kernel_rfl)
end
section
open Go.AM Go.AM.BM
set_option maxRecDepth 1000000
noncomputable def re1_0 : V := (.agg [(.iS bl3 256 false), .nS, bk24, (n32 3), (n32 0), (n32 4), (n64 17), (n32 4), (n32 0), (n32 0), (n32 2673314959), (.iS [(n64 15), (n64 16), (n64 17)] 3 false), (.iS [(n64 1), (n8 1), (n64 1), (n64 0), (n32 1), (n32 1), (n64 0), (n64 19), (n32 3), (n32 0), (n32 0), (n32 235591809), .nS] 1 false), (.iS ((.iS (Yj 24 0x3a2bfeb64d5c3292944d3cc3ddb461dea17b72b600000001) 24 false) :: (Qa2 7 .nS [])) 8 false), (.iS ((.iS (Yj 16 0x95607d78f7e34c5956cfb7aa51f85bef) 16 false) :: (Qa2 7 .nS [])) 8 false), .nS, (n64 0), (n64 2), (n32 3)])
noncomputable def re1_1 : V := (.agg [(n64 2), (n64 0), .nS, .nS, (n64 0), (n8 0), (n64 0), (n64 0), (.str []), .nS])
noncomputable def re1 : V := .tuple [re1_0, re1_1]
noncomputable def ae1 : List V := [Qvl, (.agg [(n8 0), (n64 0), (n64 0), (n64 0), (.str []), (.str []), (.str []), .nS])]
noncomputable abbrev L9 := (ali, rli) :: L8
theorem l9 : Bm Tryz.prog 7 L9 := Ys (by kernel_rfl) ans_li l8
noncomputable abbrev K9 := Qim 7 (Qbe (Qbf L9)) K8
theorem k9 : KOk Tryz.prog K9 := Bd (X8 l9) k8
theorem ans_e1 : Ans Tryz.prog 7 ae1 re1 := J5 (okC k9) (nlC _) (by kernel_rfl : Qhx (Bt Tryz.prog (Qej K9) 1000 (some 7) ae1 F0) = some re1) (by kernel_rfl)
end
section
open Go.AM Go.AM.BM
set_option maxRecDepth 1000000
noncomputable def re2_0 : V := (.agg [(.iS bl3 256 false), .nS, bk24, (n32 3), (n32 0), (n32 4), (n64 17), (n32 4), (n32 0), (n32 0), (n32 2673314959), (.iS [(n64 15), (n64 16), (n64 17)] 3 false), (.iS [(n64 1), (n8 1), (n64 1), (n64 0), (n32 1), (n32 1), (n64 0), (n64 19), (n32 3), (n32 0), (n32 0), (n32 235591809), .nS] 1 false), (.iS ((.iS (Yj 24 0x3a2bfeb64d5c3292944d3cc3ddb461dea17b72b600000001) 24 false) :: (Qa2 7 .nS [])) 8 false), (.iS ((.iS (Yj 16 0x95607d78f7e34c5956cfb7aa51f85bef) 16 false) :: (Qa2 7 .nS [])) 8 false), .nS, (n64 0), (n64 2), (n32 3)])
noncomputable def re2_1 : V := (.agg [(n64 2), (n64 0), .nS, .nS, (n64 0), (n8 0), (n64 0), (n64 0), (.str []), .nS])
noncomputable def re2 : V := .tuple [re2_0, re2_1]
noncomputable def ae2 : List V := [Qvl, (.agg [(n8 22), (n64 0), (n64 0), (n64 0), (.str []), (.str []), (.str []), .nS])]
noncomputable abbrev L10 := (ae1, re1) :: L9
theorem l10 : Bm Tryz.prog 7 L10 := Ys (by kernel_rfl) ans_e1 l9
noncomputable abbrev K10 := Qim 7 (Qbe (Qbf L10)) K9
theorem k10 : KOk Tryz.prog K10 := Bd (X8 l10) k9
theorem ans_e2 : Ans Tryz.prog 7 ae2 re2 := J5 (okC k10) (nlC _) (by kernel_rfl : Qhx (Bt Tryz.prog (Qej K10) 1000 (some 7) ae2 F0) = some re2) (by kernel_rfl)
end
section
open Go.AM Go.AM.BM
set_option maxRecDepth 1000000
noncomputable def rln_0 : V := (.agg [(.iS bl3 256 false), .nS, bk24, (n32 3), (n32 0), (n32 4), (n64 17), (n32 4), (n32 0), (n32 0), (n32 2673314959), (.iS [(n64 15), (n64 16), (n64 17)] 3 false), (.iS [(n64 1), (n8 1), (n64 1), (n64 0), (n32 1), (n32 1), (n64 0), (n64 19), (n32 3), (n32 0), (n32 0), (n32 235591809), .nS] 1 false), (.iS ((.iS (Yj 24 0x3a2bfeb64d5c3292944d3cc3ddb461dea17b72b600000001) 24 false) :: (Qa2 7 .nS [])) 8 false), (.iS ((.iS (Yj 16 0x95607d78f7e34c5956cfb7aa51f85bef) 16 false) :: (Qa2 7 .nS [])) 8 false), .nS, (n64 0), (n64 2), (n32 3)])
noncomputable def rln_1 : V := (.agg [(n64 0), (n64 0), .nS, .nS, (n64 0), (n8 0), (n64 0), (n64 0), (.str []), (.iS [(n64 1)] 1 false)])
noncomputable def rln : V := .tuple [rln_0, rln_1]
noncomputable def aln : List V := [Qvl, (.agg [(n8 19), (n64 0), (n64 0), (n64 0), (.str []), (.str []), (.str []), .nS])]
noncomputable abbrev L11 := (ae2, re2) :: L10
theorem l11 : Bm Tryz.prog 7 L11 := Ys (by kernel_rfl) ans_e2 l10
noncomputable abbrev K11 := Qim 7 (Qbe (Qbf L11)) K10
theorem k11 : KOk Tryz.prog K11 := Bd (X8 l11) k10
theorem ans_ln : Ans Tryz.prog 7 aln rln := J5 (okC k11) (nlC _) (by kernel_rfl : Qhx (Bt Tryz.prog (Qej K11) 1000 (some 7) aln F0) = some rln) (by kernel_rfl)
end
end Go.Proofs.YtgnnlchhfiomgaaGreatDoor
