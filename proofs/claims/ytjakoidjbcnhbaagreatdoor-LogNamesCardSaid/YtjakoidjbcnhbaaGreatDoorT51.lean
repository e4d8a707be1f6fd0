/- This file holds in one the texts CLogj; each says at its head what it proves. -/
import Derived.Test.YtjakoidjbcnhbaaGreatDoorT37
import Derived.Test.YtjakoidjbcnhbaaGreatDoorCards
import Derived.Test.YtjakoidjbcnhbaaGreatDoorTie
import Derived.KernelRfl
set_option linter.unusedSimpArgs false
set_option linter.unusedVariables false
section
/- LogNames: closed facts of its row, one by one. -/
namespace Go.Proofs.YtjakoidjbcnhbaaGreatDoor
theorem logNames_j1 : jf1 Tryz.prog 5 Tryz.f5 Rows.logNamesSpec Rows.logNamesRow = true := by kernel_rfl
theorem logNames_j2 : jf2 Tryz.prog 5 Tryz.f5 Rows.logNamesSpec Rows.logNamesRow = true := by kernel_rfl
theorem logNames_j3 : jf3 Tryz.prog 5 Tryz.f5 Rows.logNamesSpec Rows.logNamesRow = true := by kernel_rfl
theorem logNames_j4 : jf4 Tryz.prog 5 Tryz.f5 Rows.logNamesSpec Rows.logNamesRow = true := by kernel_rfl
theorem logNames_j5 : jf5 Tryz.prog 5 Tryz.f5 Rows.logNamesSpec Rows.logNamesRow = true := by kernel_rfl
theorem logNames_j6 : jf6 Tryz.prog 5 Tryz.f5 Rows.logNamesSpec Rows.logNamesRow = true := by kernel_rfl
theorem logNames_j7 : jf7 Tryz.prog 5 Tryz.f5 Rows.logNamesSpec Rows.logNamesRow = true := by kernel_rfl
theorem logNames_j8 : jf8 Tryz.prog 5 Tryz.f5 Rows.logNamesSpec Rows.logNamesRow = true := by kernel_rfl
theorem logNames_j9 : jf9 Tryz.prog 5 Tryz.f5 Rows.logNamesSpec Rows.logNamesRow = true := by kernel_rfl
theorem logNames_j10 : jf10 Tryz.prog 5 Tryz.f5 Rows.logNamesSpec Rows.logNamesRow = true := by kernel_rfl
theorem logNames_j11 : jf11 Tryz.prog 5 Tryz.f5 Rows.logNamesSpec Rows.logNamesRow = true := by kernel_rfl
theorem logNames_j12 : jf12 Tryz.prog 5 Tryz.f5 Rows.logNamesSpec Rows.logNamesRow = true := by kernel_rfl
theorem logNames_j13 : jf13 Tryz.prog 5 Tryz.f5 Rows.logNamesSpec Rows.logNamesRow = true := by kernel_rfl
theorem logNames_j14 : jf14 Tryz.prog 5 Tryz.f5 Rows.logNamesSpec Rows.logNamesRow = true := by kernel_rfl
theorem logNames_j15 : jf15 Tryz.prog 5 Tryz.f5 Rows.logNamesSpec Rows.logNamesRow = true := by kernel_rfl
theorem logNames_j16 : jf16 Tryz.prog 5 Tryz.f5 Rows.logNamesSpec Rows.logNamesRow = true := by kernel_rfl
theorem logNames_j17 : jf17 Tryz.prog 5 Tryz.f5 Rows.logNamesSpec Rows.logNamesRow = true := by kernel_rfl
theorem logNames_j18 : jf18 Tryz.prog 5 Tryz.f5 Rows.logNamesSpec Rows.logNamesRow = true := by kernel_rfl
theorem logNames_j19 : jf19 Tryz.prog 5 Tryz.f5 Rows.logNamesSpec Rows.logNamesRow = true := by kernel_rfl
theorem logNames_j20 : jf20 Tryz.prog 5 Tryz.f5 Rows.logNamesSpec Rows.logNamesRow = true := by kernel_rfl
theorem logNames_j21 : jf21 Tryz.prog 5 Tryz.f5 Rows.logNamesSpec Rows.logNamesRow = true := by kernel_rfl
theorem logNames_j22 : jf22 Tryz.prog 5 Tryz.f5 Rows.logNamesSpec Rows.logNamesRow = true := by kernel_rfl
theorem logNames_j23 : jf23 Tryz.prog 5 Tryz.f5 Rows.logNamesSpec Rows.logNamesRow = true := by kernel_rfl
theorem logNames_j24 : jf24 Tryz.prog 5 Tryz.f5 Rows.logNamesSpec Rows.logNamesRow = true := by kernel_rfl
theorem logNames_j25 : jf25 Tryz.prog 5 Tryz.f5 Rows.logNamesSpec Rows.logNamesRow = true := by kernel_rfl
theorem logNames_j26 : jf26 Tryz.prog 5 Tryz.f5 Rows.logNamesSpec Rows.logNamesRow = true := by kernel_rfl
theorem logNames_j27 : jf27 Tryz.prog 5 Tryz.f5 Rows.logNamesSpec Rows.logNamesRow = true := by kernel_rfl
theorem logNames_j28 : jf28 Tryz.prog 5 Tryz.f5 Rows.logNamesSpec Rows.logNamesRow = true := by kernel_rfl
theorem logNames_j29 : jf29 Tryz.prog 5 Tryz.f5 Rows.logNamesSpec Rows.logNamesRow = true := by kernel_rfl
theorem logNames_j30 : jf30 Tryz.prog 5 Tryz.f5 Rows.logNamesSpec Rows.logNamesRow = true := by kernel_rfl
theorem logNames_j31 : jf31 Tryz.prog 5 Tryz.f5 Rows.logNamesSpec Rows.logNamesRow = true := by kernel_rfl
theorem logNames_j32 : jf32 Tryz.prog 5 Tryz.f5 Rows.logNamesSpec Rows.logNamesRow = true := by kernel_rfl
end Go.Proofs.YtjakoidjbcnhbaaGreatDoor
end
