/- This file holds in one the texts DYda; each says at its head what it proves. -/
import Derived.Test.YtafhcdagifopeaaGreatDoorT44
set_option linter.unusedSimpArgs false
set_option linter.unusedVariables false
section
/- DirNames: what is reckoned ahead: one. -/
namespace Go.Proofs.YtafhcdagifopeaaGreatDoor
open Go.AM Go.AM.BM
set_option maxRecDepth 1000000
noncomputable def bk0 : V := .islice (byLE 256 0x139f058aed47ce5800000000000000000000010e000000010000000143) 256 true
noncomputable def bk1 : V := .islice (byLE 256 0xebea98f152ca1b65000000000000000000000211000000010000000243) 256 true
noncomputable def bk2 : V := .islice (byLE 256 0x641d1b0600000000000000000000010d000000000000000000000000000000000000000000000000000000000000000000000000000000000000000000000000641d1b0600000000000000000000010c00000000000000000000000001000152) 256 true
noncomputable def bk3 : V := .islice (byLE 256 0x100000100010101) 256 true
noncomputable def bk4 : V := .islice (byLE 256 0xaf3f9f1ad83c4fea63ae709a8b7bd674f083295900000001) 256 true
noncomputable def bk5 : V := .islice (byLE 256 0x2eb384330000000000000000000002100000000000000000000000000000000000000000000000000000000000000000000000000000000000000000000000002dc16d3f00000000000000000000020f00000000000000000100000003000252) 256 true
noncomputable def bk6 : V := .islice (byLE 256 0x10101000000010101010101010101010101) 256 true
noncomputable def rone_0 : V := (.agg [(.islice (zbT :: (bk0 :: (bk1 :: (repT 11 zbT (bk2 :: (bk3 :: (bk4 :: (bk5 :: (repT 238 zbT []))))))))) 256 false), .nilslice, bk6, (.int .u32 (Int.ofNat 1)), (.int .u32 (Int.ofNat 0)), (.int .u32 (Int.ofNat 2)), (.int .i64 (Int.ofNat 17)), (.int .u32 (Int.ofNat 2)), (.int .u32 (Int.ofNat 0)), (.int .u32 (Int.ofNat 0)), (.int .u32 (Int.ofNat 1388976997)), (.islice [(.int .i64 (Int.ofNat 15)), (.int .i64 (Int.ofNat 16)), (.int .i64 (Int.ofNat 17))] 3 false), (.islice [(.int .i64 (Int.ofNat 1)), (.int .u8 (Int.ofNat 1)), (.int .i64 (Int.ofNat 1)), (.int .i64 (Int.ofNat 0)), (.int .u32 (Int.ofNat 1)), (.int .u32 (Int.ofNat 1)), (.int .i64 (Int.ofNat 0)), (.int .i64 (Int.ofNat 0)), (.int .u32 (Int.ofNat 0)), (.int .u32 (Int.ofNat 0)), (.int .u32 (Int.ofNat 0)), (.int .u32 (Int.ofNat 0)), .nilslice] 1 false), (.islice ((.islice (byLE 24 0xaf3f9f1ad83c4fea63ae709a8b7bd674f083295900000001) 24 false) :: (repT 7 .nilslice [])) 8 false), (.islice ((.islice (byLE 16 0x0) 16 false) :: (repT 7 .nilslice [])) 8 false), .nilslice, (.int .i64 (Int.ofNat 0)), (.int .i64 (Int.ofNat 2)), (.int .u32 (Int.ofNat 3))])
noncomputable def rone_1 : V := (.bool true)
noncomputable def rone : V := .tuple [rone_0, rone_1]
noncomputable def aone : List V := []
theorem run_one : ansF (fcall Tryz.prog (polC fun _ => none) 1000 (some 5) aone F0) = some rone := by kernel_rfl
theorem ans_one : Ans Tryz.prog 5 aone rone := ans_of_run (okC fun _ _ h => by cases h) (nlC _) run_one (by kernel_rfl)
end Go.Proofs.YtafhcdagifopeaaGreatDoor
end
