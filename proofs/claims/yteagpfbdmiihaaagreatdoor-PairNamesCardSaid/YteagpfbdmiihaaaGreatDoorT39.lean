/- This file holds in one the texts DYpa; each says at its head what it proves. -/
import Derived.Test.YteagpfbdmiihaaaGreatDoorT28
import Derived.Test.YteagpfbdmiihaaaGreatDoorT38
set_option linter.unusedSimpArgs false
set_option linter.unusedVariables false
namespace Go.Proofs.YteagpfbdmiihaaaGreatDoor
section
open Go.AM Go.AM.BM
set_option maxRecDepth 1000000
noncomputable def bk0 : V := .iS (Jk 256 0x139f058aed47ce5800000000000000000000010e000000010000000143) 256 true
noncomputable def bk1 : V := .iS (Jk 256 0x641d1b0600000000000000000000010d000000000000000000000000000000000000000000000000000000000000000000000000000000000000000000000000641d1b0600000000000000000000010c00000000000000000000000001000152) 256 true
noncomputable def bl0 : List V := (zbT :: (bk0 :: (Jp 12 zbT (bk1 :: (Jp 241 zbT [])))))
noncomputable def bk2 : V := .iS (Jk 256 0x10101010101010101010101010101) 256 false
noncomputable def bk3 : V := .iS (Jk 256 0x14ac6887cb89a6d600000000000000000000010e000000020000000143) 256 true
noncomputable def bk4 : V := .iS (Jk 256 0x641d1b0600000000000000000000010d000000000000000000000000000000000000000000000000000000000000000000000000000000000000000000000000641d1b0600000000000000000000010c00000000000000000000000002000152) 256 true
noncomputable def bl1 : List V := (upT 14 bk4 (upT 1 bk3 bl0))
noncomputable def Q3b : V := (.agg [(.iS [(.iS bl0 256 false), .nS, bk2, (n32 1), (n32 0), (n32 1), (n64 14), (n32 1), (n32 0), (n32 0), (n32 3980906072), (.iS [(n64 12), (n64 13), (n64 14)] 3 false), .nS, (.iS (Jp 8 .nS []) 8 false), (.iS (Jp 8 .nS []) 8 false), .nS, (n64 0), (n64 1), (n32 1), (.iS bl1 256 false), .nS, bk2, (n32 2), (n32 0), (n32 1), (n64 14), (n32 1), (n32 0), (n32 0), (n32 3414795990), (.iS [(n64 12), (n64 13), (n64 14)] 3 false), .nS, (.iS (Jp 8 .nS []) 8 false), (.iS (Jp 8 .nS []) 8 false), .nS, (n64 0), (n64 1), (n32 2)] 2 false), .nS, (.iS (Jk 16 0x65657478697320666f20646565732061) 16 false), (n64 0)])
noncomputable def rnp_1 : V := (n64 0)
noncomputable def rnp : V := .tuple [Q3b, rnp_1]
noncomputable def anp : List V := [(.iS (Jk 16 0x65657478697320666f20646565732061) 16 true)]
theorem ans_np : Ans Tryz.prog 7 anp rnp := Jc (okC noK) (nlC _) (by kernel_rfl : Qfq (X8 Tryz.prog (Qc6 (fun _ => none)) 1000 (some 7) anp F0) = some rnp) (by kernel_rfl)
end
end Go.Proofs.YteagpfbdmiihaaaGreatDoor
