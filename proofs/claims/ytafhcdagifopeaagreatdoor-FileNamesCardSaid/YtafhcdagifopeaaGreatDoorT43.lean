/- This file holds in one the texts Cfj; each says at its head what it proves. -/
import Derived.Test.YtafhcdagifopeaaGreatDoorT28
import Derived.Test.YtafhcdagifopeaaGreatDoorCards
import Derived.Test.YtafhcdagifopeaaGreatDoorTie
import Derived.KernelRfl
set_option linter.unusedSimpArgs false
set_option linter.unusedVariables false
namespace Go.Proofs.YtafhcdagifopeaaGreatDoor
section
theorem Qq2 : jf1 Tryz.prog 4 Tryz.f4 Rows.fileNamesSpec Rows.fileNamesRow = true := by kernel_rfl
theorem Qsx : jf2 Tryz.prog 4 Tryz.f4 Rows.fileNamesSpec Rows.fileNamesRow = true := by kernel_rfl
theorem Qrv : jf3 Tryz.prog 4 Tryz.f4 Rows.fileNamesSpec Rows.fileNamesRow = true := by kernel_rfl
theorem Qss : jf4 Tryz.prog 4 Tryz.f4 Rows.fileNamesSpec Rows.fileNamesRow = true := by kernel_rfl
theorem Qry : jf5 Tryz.prog 4 Tryz.f4 Rows.fileNamesSpec Rows.fileNamesRow = true := by kernel_rfl
theorem Qsf : jf6 Tryz.prog 4 Tryz.f4 Rows.fileNamesSpec Rows.fileNamesRow = true := by kernel_rfl
theorem Qrj : jf7 Tryz.prog 4 Tryz.f4 Rows.fileNamesSpec Rows.fileNamesRow = true := by kernel_rfl
theorem Qrk : jf8 Tryz.prog 4 Tryz.f4 Rows.fileNamesSpec Rows.fileNamesRow = true := by kernel_rfl
theorem Qr1 : jf9 Tryz.prog 4 Tryz.f4 Rows.fileNamesSpec Rows.fileNamesRow = true := by kernel_rfl
theorem Qou : jf10 Tryz.prog 4 Tryz.f4 Rows.fileNamesSpec Rows.fileNamesRow = true := by kernel_rfl
theorem Qox : jf11 Tryz.prog 4 Tryz.f4 Rows.fileNamesSpec Rows.fileNamesRow = true := by kernel_rfl
theorem Qor : jf12 Tryz.prog 4 Tryz.f4 Rows.fileNamesSpec Rows.fileNamesRow = true := by kernel_rfl
theorem Qoz : jf13 Tryz.prog 4 Tryz.f4 Rows.fileNamesSpec Rows.fileNamesRow = true := by kernel_rfl
theorem Qoc : jf14 Tryz.prog 4 Tryz.f4 Rows.fileNamesSpec Rows.fileNamesRow = true := by kernel_rfl
theorem Qoh : jf15 Tryz.prog 4 Tryz.f4 Rows.fileNamesSpec Rows.fileNamesRow = true := by kernel_rfl
theorem Qn9 : jf16 Tryz.prog 4 Tryz.f4 Rows.fileNamesSpec Rows.fileNamesRow = true := by kernel_rfl
theorem Qn5 : jf17 Tryz.prog 4 Tryz.f4 Rows.fileNamesSpec Rows.fileNamesRow = true := by kernel_rfl
theorem Qpb : jf18 Tryz.prog 4 Tryz.f4 Rows.fileNamesSpec Rows.fileNamesRow = true := by kernel_rfl
theorem Qnu : jf19 Tryz.prog 4 Tryz.f4 Rows.fileNamesSpec Rows.fileNamesRow = true := by kernel_rfl
theorem Qo2 : jf20 Tryz.prog 4 Tryz.f4 Rows.fileNamesSpec Rows.fileNamesRow = true := by kernel_rfl
theorem Qn1 : jf21 Tryz.prog 4 Tryz.f4 Rows.fileNamesSpec Rows.fileNamesRow = true := by kernel_rfl
theorem Qnx : jf22 Tryz.prog 4 Tryz.f4 Rows.fileNamesSpec Rows.fileNamesRow = true := by kernel_rfl
theorem Qoj : jf23 Tryz.prog 4 Tryz.f4 Rows.fileNamesSpec Rows.fileNamesRow = true := by kernel_rfl
theorem Qnz : jf24 Tryz.prog 4 Tryz.f4 Rows.fileNamesSpec Rows.fileNamesRow = true := by kernel_rfl
theorem Qoe : jf25 Tryz.prog 4 Tryz.f4 Rows.fileNamesSpec Rows.fileNamesRow = true := by kernel_rfl
theorem Qog : jf26 Tryz.prog 4 Tryz.f4 Rows.fileNamesSpec Rows.fileNamesRow = true := by kernel_rfl
theorem Qo0 : jf27 Tryz.prog 4 Tryz.f4 Rows.fileNamesSpec Rows.fileNamesRow = true := by kernel_rfl
theorem Qok : jf28 Tryz.prog 4 Tryz.f4 Rows.fileNamesSpec Rows.fileNamesRow = true := by kernel_rfl
theorem Qn4 : jf29 Tryz.prog 4 Tryz.f4 Rows.fileNamesSpec Rows.fileNamesRow = true := by kernel_rfl
theorem Qow : jf30 Tryz.prog 4 Tryz.f4 Rows.fileNamesSpec Rows.fileNamesRow = true := by kernel_rfl
theorem Qo4 : jf31 Tryz.prog 4 Tryz.f4 Rows.fileNamesSpec Rows.fileNamesRow = true := by kernel_rfl
theorem Qop : jf32 Tryz.prog 4 Tryz.f4 Rows.fileNamesSpec Rows.fileNamesRow = true := by kernel_rfl
end
end Go.Proofs.YtafhcdagifopeaaGreatDoor
