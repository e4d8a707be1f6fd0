/- This file holds in one the texts Cdj; each says at its head what it proves. -/
import Derived.Test.YtafhcdagifopeaaGreatDoorT34
import Derived.Test.YtafhcdagifopeaaGreatDoorCards
import Derived.Test.YtafhcdagifopeaaGreatDoorTie
import Derived.KernelRfl
set_option linter.unusedSimpArgs false
set_option linter.unusedVariables false
section
/- DirNames: closed facts of its row, one by one. -/
namespace Go.Proofs.YtafhcdagifopeaaGreatDoor
theorem dirNames_j1 : jf1 Tryz.prog 3 Tryz.f3 Rows.dirNamesSpec Rows.dirNamesRow = true := by kernel_rfl
theorem dirNames_j2 : jf2 Tryz.prog 3 Tryz.f3 Rows.dirNamesSpec Rows.dirNamesRow = true := by kernel_rfl
theorem dirNames_j3 : jf3 Tryz.prog 3 Tryz.f3 Rows.dirNamesSpec Rows.dirNamesRow = true := by kernel_rfl
theorem dirNames_j4 : jf4 Tryz.prog 3 Tryz.f3 Rows.dirNamesSpec Rows.dirNamesRow = true := by kernel_rfl
theorem dirNames_j5 : jf5 Tryz.prog 3 Tryz.f3 Rows.dirNamesSpec Rows.dirNamesRow = true := by kernel_rfl
theorem dirNames_j6 : jf6 Tryz.prog 3 Tryz.f3 Rows.dirNamesSpec Rows.dirNamesRow = true := by kernel_rfl
theorem dirNames_j7 : jf7 Tryz.prog 3 Tryz.f3 Rows.dirNamesSpec Rows.dirNamesRow = true := by kernel_rfl
theorem dirNames_j8 : jf8 Tryz.prog 3 Tryz.f3 Rows.dirNamesSpec Rows.dirNamesRow = true := by kernel_rfl
theorem dirNames_j9 : jf9 Tryz.prog 3 Tryz.f3 Rows.dirNamesSpec Rows.dirNamesRow = true := by kernel_rfl
theorem dirNames_j10 : jf10 Tryz.prog 3 Tryz.f3 Rows.dirNamesSpec Rows.dirNamesRow = true := by kernel_rfl
theorem dirNames_j11 : jf11 Tryz.prog 3 Tryz.f3 Rows.dirNamesSpec Rows.dirNamesRow = true := by kernel_rfl
theorem dirNames_j12 : jf12 Tryz.prog 3 Tryz.f3 Rows.dirNamesSpec Rows.dirNamesRow = true := by kernel_rfl
theorem dirNames_j13 : jf13 Tryz.prog 3 Tryz.f3 Rows.dirNamesSpec Rows.dirNamesRow = true := by kernel_rfl
theorem dirNames_j14 : jf14 Tryz.prog 3 Tryz.f3 Rows.dirNamesSpec Rows.dirNamesRow = true := by kernel_rfl
theorem dirNames_j15 : jf15 Tryz.prog 3 Tryz.f3 Rows.dirNamesSpec Rows.dirNamesRow = true := by kernel_rfl
theorem dirNames_j16 : jf16 Tryz.prog 3 Tryz.f3 Rows.dirNamesSpec Rows.dirNamesRow = true := by kernel_rfl
theorem dirNames_j17 : jf17 Tryz.prog 3 Tryz.f3 Rows.dirNamesSpec Rows.dirNamesRow = true := by kernel_rfl
theorem dirNames_j18 : jf18 Tryz.prog 3 Tryz.f3 Rows.dirNamesSpec Rows.dirNamesRow = true := by kernel_rfl
theorem dirNames_j19 : jf19 Tryz.prog 3 Tryz.f3 Rows.dirNamesSpec Rows.dirNamesRow = true := by kernel_rfl
theorem dirNames_j20 : jf20 Tryz.prog 3 Tryz.f3 Rows.dirNamesSpec Rows.dirNamesRow = true := by kernel_rfl
theorem dirNames_j21 : jf21 Tryz.prog 3 Tryz.f3 Rows.dirNamesSpec Rows.dirNamesRow = true := by kernel_rfl
theorem dirNames_j22 : jf22 Tryz.prog 3 Tryz.f3 Rows.dirNamesSpec Rows.dirNamesRow = true := by kernel_rfl
theorem dirNames_j23 : jf23 Tryz.prog 3 Tryz.f3 Rows.dirNamesSpec Rows.dirNamesRow = true := by kernel_rfl
theorem dirNames_j24 : jf24 Tryz.prog 3 Tryz.f3 Rows.dirNamesSpec Rows.dirNamesRow = true := by kernel_rfl
theorem dirNames_j25 : jf25 Tryz.prog 3 Tryz.f3 Rows.dirNamesSpec Rows.dirNamesRow = true := by kernel_rfl
theorem dirNames_j26 : jf26 Tryz.prog 3 Tryz.f3 Rows.dirNamesSpec Rows.dirNamesRow = true := by kernel_rfl
theorem dirNames_j27 : jf27 Tryz.prog 3 Tryz.f3 Rows.dirNamesSpec Rows.dirNamesRow = true := by kernel_rfl
theorem dirNames_j28 : jf28 Tryz.prog 3 Tryz.f3 Rows.dirNamesSpec Rows.dirNamesRow = true := by kernel_rfl
theorem dirNames_j29 : jf29 Tryz.prog 3 Tryz.f3 Rows.dirNamesSpec Rows.dirNamesRow = true := by kernel_rfl
theorem dirNames_j30 : jf30 Tryz.prog 3 Tryz.f3 Rows.dirNamesSpec Rows.dirNamesRow = true := by kernel_rfl
theorem dirNames_j31 : jf31 Tryz.prog 3 Tryz.f3 Rows.dirNamesSpec Rows.dirNamesRow = true := by kernel_rfl
theorem dirNames_j32 : jf32 Tryz.prog 3 Tryz.f3 Rows.dirNamesSpec Rows.dirNamesRow = true := by kernel_rfl
end Go.Proofs.YtafhcdagifopeaaGreatDoor
end
