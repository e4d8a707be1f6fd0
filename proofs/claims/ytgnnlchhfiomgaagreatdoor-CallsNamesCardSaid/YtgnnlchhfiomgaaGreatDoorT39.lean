/- This file holds in one the texts DYca; each says at its head what it proves. -/
import Derived.Test.YtgnnlchhfiomgaaGreatDoorT28
import Derived.Test.YtgnnlchhfiomgaaGreatDoorT38
set_option linter.unusedSimpArgs false
set_option linter.unusedVariables false
namespace Go.Proofs.YtgnnlchhfiomgaaGreatDoor
section
open Go.AM Go.AM.BM
set_option maxRecDepth 1000000
noncomputable def bk0 : V := .iS (Yj 256 0x139f058aed47ce5800000000000000000000010e000000010000000143) 256 true
noncomputable def bk1 : V := .iS (Yj 256 0x641d1b0600000000000000000000010d000000000000000000000000000000000000000000000000000000000000000000000000000000000000000000000000641d1b0600000000000000000000010c00000000000000000000000001000152) 256 true
noncomputable def bl0 : List V := (zbT :: (bk0 :: (Qa2 12 zbT (bk1 :: (Qa2 241 zbT [])))))
noncomputable def bk2 : V := .iS (Yj 256 0x10101010101010101010101010101) 256 false
noncomputable def rfm_0 : V := (.agg [(.iS bl0 256 false), .nS, bk2, (n32 1), (n32 0), (n32 1), (n64 14), (n32 1), (n32 0), (n32 0), (n32 3980906072), (.iS [(n64 12), (n64 13), (n64 14)] 3 false), .nS, (.iS (Qa2 8 .nS []) 8 false), (.iS (Qa2 8 .nS []) 8 false), .nS, (n64 0), (n64 1), (n32 1)])
noncomputable def rfm_1 : V := (n64 0)
noncomputable def rfm : V := .tuple [rfm_0, rfm_1]
noncomputable def afm : List V := [(n64 0)]
theorem ans_fm : Ans Tryz.prog 9 afm rfm := J5 (okC noK) (nlC _) (by kernel_rfl : Qhx (Bt Tryz.prog (Qej (fun _ => none)) 1000 (some 9) afm F0) = some rfm) (by kernel_rfl)
end
end Go.Proofs.YtgnnlchhfiomgaaGreatDoor
