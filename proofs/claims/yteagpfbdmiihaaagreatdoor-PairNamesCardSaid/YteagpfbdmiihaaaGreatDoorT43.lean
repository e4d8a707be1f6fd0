/- This file holds in one the texts DYpg, DYph; each says at its head what it proves. -/
import Derived.Test.YteagpfbdmiihaaaGreatDoorT28
import Derived.Test.YteagpfbdmiihaaaGreatDoorT42
set_option linter.unusedSimpArgs false
set_option linter.unusedVariables false
namespace Go.Proofs.YteagpfbdmiihaaaGreatDoor
section
open Go.AM Go.AM.BM
set_option maxRecDepth 1000000
noncomputable def rp5_0 : V := (.agg [(.iS [(.iS bl3 256 false), .nS, Qvz, (n32 1), (n32 0), (n32 4), (n64 17), (n32 4), (n32 0), (n32 0), (n32 30413833), (.iS [(n64 15), (n64 16), (n64 17)] 3 false), (.iS [(n64 1), (n8 1), (n64 1), (n64 2), (n32 3), (n32 1), (n64 0), (n64 0), (n32 0), (n32 0), (n32 0), (n32 0), .nS, (n64 2), (n8 2), (n64 1), (n64 0), (n32 3), (n32 3), (n64 0), (n64 0), (n32 0), (n32 0), (n32 0), (n32 0), .nS] 2 false), (.iS ((.iS (Jk 24 0x3a2bfeb64d5c3292944d3cc3ddb461dea17b72b600000001) 24 false) :: (Jp 7 .nS [])) 8 false), (.iS ((.iS (Jk 16 0x95607d78f7e34c5956cfb7aa51f85bef) 16 false) :: (Jp 7 .nS [])) 8 false), .nS, (n64 0), (n64 3), (n32 5), (.iS bl4 256 false), .nS, Qvz, (n32 2), (n32 0), (n32 2), (n64 17), (n32 2), (n32 0), (n32 0), (n32 2277148165), (.iS [(n64 15), (n64 16), (n64 17)] 3 false), (.iS [(n64 1), (n8 1), (n64 1), (n64 2), (n32 2), (n32 4), (n64 0), (n64 0), (n32 0), (n32 0), (n32 0), (n32 0), .nS, (n64 2), (n8 2), (n64 1), (n64 0), (n32 2), (n32 3), (n64 0), (n64 0), (n32 0), (n32 0), (n32 0), (n32 0), .nS] 2 false), (.iS ((.iS (Jk 24 0x3a2bfeb64d5c3292944d3cc3ddb461dea17b72b600000001) 24 false) :: (Jp 7 .nS [])) 8 false), (.iS (Jp 8 .nS []) 8 false), .nS, (n64 0), (n64 3), (n32 6)] 2 false), (.iS (Jk 244 0x7a51f4b20e4ee2212592fedd84ce81387c9bdc855a835ffdaf7f3fee17e242c06492cf5527ecce78e586aaa95cf795f4e1369de3203ed122a5eca3c33c343f4863429990eb526509d9e841104d45370ae45700769c639258f99ecc5b6778675e01440f6d1871add4f9edeb76b16305aa7e2294979ccd852a6cf708eae2a6d2d5a8ae157c387526a0ea880cd39d5b8a9500b99be2d1e1c13ef5a90a2192e07d67ee11c1773cf196e1f4008ad49fd17f683ffdcaef7ff86082db3ba3e7c3a4d18eaae50ba4ab2858f947041a227c574e830000003a2bfeb64d5c3292944d3cc3ddb461dea17b72b600000001000000000000000353) 244 false), (.iS (Jk 16 0x65657478697320666f20646565732061) 16 false), (n64 1)])
noncomputable def rp5_1 : V := (.agg [(n64 0), (n64 0), .nS, .nS, (n64 0), (n8 0), (n64 0), (n64 0), (.str []), (.iS [(n64 1), (n64 2)] 2 false)])
noncomputable def rp5 : V := .tuple [rp5_0, rp5_1]
noncomputable def ap5 : List V := [rp4_0, (.agg [(n8 1), (n64 1), (n64 0), (n64 0), (n8 19), (n64 0), (n64 0), (n64 0), (.str []), (.str []), (.str []), .nS, .nS])]
noncomputable abbrev L6 := (ap4, rp4) :: L5
theorem l6 : Xm Tryz.prog 10 L6 := Yc (by kernel_rfl) ans_p4 l5
noncomputable abbrev K6 := Qgx 10 (Qak (Qai L6)) K5
theorem k6 : KOk Tryz.prog K6 := Xc (Xf l6) k5
theorem ans_p5 : Ans Tryz.prog 10 ap5 rp5 := Jc (okC k6) (nlC _) (by kernel_rfl : Qfq (X8 Tryz.prog (Qc6 K6) 1000 (some 10) ap5 F0) = some rp5) (by kernel_rfl)
end
section
open Go.AM Go.AM.BM
set_option maxRecDepth 1000000
noncomputable def rw1_0 : V := (.agg [(.iS [(.iS bl3 256 false), .nS, Qvz, (n32 1), (n32 0), (n32 4), (n64 17), (n32 4), (n32 0), (n32 0), (n32 30413833), (.iS [(n64 15), (n64 16), (n64 17)] 3 false), (.iS [(n64 1), (n8 1), (n64 1), (n64 2), (n32 3), (n32 1), (n64 0), (n64 0), (n32 0), (n32 0), (n32 0), (n32 0), .nS, (n64 2), (n8 2), (n64 1), (n64 0), (n32 3), (n32 3), (n64 0), (n64 0), (n32 0), (n32 0), (n32 0), (n32 0), .nS] 2 false), (.iS ((.iS (Jk 24 0x3a2bfeb64d5c3292944d3cc3ddb461dea17b72b600000001) 24 false) :: (Jp 7 .nS [])) 8 false), (.iS ((.iS (Jk 16 0x95607d78f7e34c5956cfb7aa51f85bef) 16 false) :: (Jp 7 .nS [])) 8 false), .nS, (n64 0), (n64 3), (n32 5), (.iS bl1 256 false), .nS, bk2, (n32 2), (n32 0), (n32 1), (n64 14), (n32 1), (n32 0), (n32 0), (n32 3414795990), (.iS [(n64 12), (n64 13), (n64 14)] 3 false), .nS, (.iS (Jp 8 .nS []) 8 false), (.iS (Jp 8 .nS []) 8 false), .nS, (n64 0), (n64 1), (n32 2)] 2 false), (.iS (Jk 244 0x7a51f4b20e4ee2212592fedd84ce81387c9bdc855a835ffdaf7f3fee17e242c06492cf5527ecce78e586aaa95cf795f4e1369de3203ed122a5eca3c33c343f4863429990eb526509d9e841104d45370ae45700769c639258f99ecc5b6778675e01440f6d1871add4f9edeb76b16305aa7e2294979ccd852a6cf708eae2a6d2d5a8ae157c387526a0ea880cd39d5b8a9500b99be2d1e1c13ef5a90a2192e07d67ee11c1773cf196e1f4008ad49fd17f683ffdcaef7ff86082db3ba3e7c3a4d18eaae50ba4ab2858f947041a237c574e830000003a2bfeb64d5c3292944d3cc3ddb461dea17b72b600000001000000000000000353) 244 false), (.iS (Jk 16 0x65657478697320666f20646565732061) 16 false), (n64 1)])
noncomputable def rw1_1 : V := (.agg [(n64 0), (n64 0), .nS, .nS, (n64 0), (n8 0), (n64 0), (n64 0), (.str []), .nS])
noncomputable def rw1 : V := .tuple [rw1_0, rw1_1]
noncomputable def aw1 : List V := [Q43, (.agg [(n8 5), (n64 0), (n64 40), (n64 1), (n8 0), (n64 0), (n64 0), (n64 0), (.str []), (.str []), (.str []), .nS, .nS])]
noncomputable abbrev L7 := (ap5, rp5) :: L6
theorem l7 : Xm Tryz.prog 10 L7 := Yc (by kernel_rfl) ans_p5 l6
noncomputable abbrev K7 := Qgx 10 (Qak (Qai L7)) K6
theorem k7 : KOk Tryz.prog K7 := Xc (Xf l7) k6
theorem ans_w1 : Ans Tryz.prog 10 aw1 rw1 := Jc (okC k7) (nlC _) (by kernel_rfl : Qfq (X8 Tryz.prog (Qc6 K7) 1000 (some 10) aw1 F0) = some rw1) (by kernel_rfl)
end
end Go.Proofs.YteagpfbdmiihaaaGreatDoor
