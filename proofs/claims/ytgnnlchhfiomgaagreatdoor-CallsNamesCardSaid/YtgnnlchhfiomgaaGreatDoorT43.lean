/- This file holds in one the texts Ccj; each says at its head what it proves. -/
import Derived.Test.YtgnnlchhfiomgaaGreatDoorT28
import Derived.Test.YtgnnlchhfiomgaaGreatDoorCards
import Derived.Test.YtgnnlchhfiomgaaGreatDoorTie
import Derived.KernelRfl
set_option linter.unusedSimpArgs false
set_option linter.unusedVariables false
namespace Go.Proofs.YtgnnlchhfiomgaaGreatDoor
section
theorem Qpn : jf1 Tryz.prog 3 Tryz.f3 Rows.callsNamesSpec Rows.callsNamesRow = true := by kernel_rfl
theorem Qot : jf2 Tryz.prog 3 Tryz.f3 Rows.callsNamesSpec Rows.callsNamesRow = true := by kernel_rfl
theorem Qpc : jf3 Tryz.prog 3 Tryz.f3 Rows.callsNamesSpec Rows.callsNamesRow = true := by kernel_rfl
theorem Qpi : jf4 Tryz.prog 3 Tryz.f3 Rows.callsNamesSpec Rows.callsNamesRow = true := by kernel_rfl
theorem Qon : jf5 Tryz.prog 3 Tryz.f3 Rows.callsNamesSpec Rows.callsNamesRow = true := by kernel_rfl
theorem Qo9 : jf6 Tryz.prog 3 Tryz.f3 Rows.callsNamesSpec Rows.callsNamesRow = true := by kernel_rfl
theorem Qox : jf7 Tryz.prog 3 Tryz.f3 Rows.callsNamesSpec Rows.callsNamesRow = true := by kernel_rfl
theorem Qpj : jf8 Tryz.prog 3 Tryz.f3 Rows.callsNamesSpec Rows.callsNamesRow = true := by kernel_rfl
theorem Qpg : jf9 Tryz.prog 3 Tryz.f3 Rows.callsNamesSpec Rows.callsNamesRow = true := by kernel_rfl
theorem Qn0 : jf10 Tryz.prog 3 Tryz.f3 Rows.callsNamesSpec Rows.callsNamesRow = true := by kernel_rfl
theorem Qmo : jf11 Tryz.prog 3 Tryz.f3 Rows.callsNamesSpec Rows.callsNamesRow = true := by kernel_rfl
theorem Qlq : jf12 Tryz.prog 3 Tryz.f3 Rows.callsNamesSpec Rows.callsNamesRow = true := by kernel_rfl
theorem Qoj : jf13 Tryz.prog 3 Tryz.f3 Rows.callsNamesSpec Rows.callsNamesRow = true := by kernel_rfl
theorem Qmu : jf14 Tryz.prog 3 Tryz.f3 Rows.callsNamesSpec Rows.callsNamesRow = true := by kernel_rfl
theorem Qng : jf15 Tryz.prog 3 Tryz.f3 Rows.callsNamesSpec Rows.callsNamesRow = true := by kernel_rfl
theorem Qlt : jf16 Tryz.prog 3 Tryz.f3 Rows.callsNamesSpec Rows.callsNamesRow = true := by kernel_rfl
theorem Qmx : jf17 Tryz.prog 3 Tryz.f3 Rows.callsNamesSpec Rows.callsNamesRow = true := by kernel_rfl
theorem Qmd : jf18 Tryz.prog 3 Tryz.f3 Rows.callsNamesSpec Rows.callsNamesRow = true := by kernel_rfl
theorem Qn4 : jf19 Tryz.prog 3 Tryz.f3 Rows.callsNamesSpec Rows.callsNamesRow = true := by kernel_rfl
theorem Qob : jf20 Tryz.prog 3 Tryz.f3 Rows.callsNamesSpec Rows.callsNamesRow = true := by kernel_rfl
theorem Qne : jf21 Tryz.prog 3 Tryz.f3 Rows.callsNamesSpec Rows.callsNamesRow = true := by kernel_rfl
theorem Qnu : jf22 Tryz.prog 3 Tryz.f3 Rows.callsNamesSpec Rows.callsNamesRow = true := by kernel_rfl
theorem Qlz : jf23 Tryz.prog 3 Tryz.f3 Rows.callsNamesSpec Rows.callsNamesRow = true := by kernel_rfl
theorem Ql1 : jf24 Tryz.prog 3 Tryz.f3 Rows.callsNamesSpec Rows.callsNamesRow = true := by kernel_rfl
theorem Qm6 : jf25 Tryz.prog 3 Tryz.f3 Rows.callsNamesSpec Rows.callsNamesRow = true := by kernel_rfl
theorem Qog : jf26 Tryz.prog 3 Tryz.f3 Rows.callsNamesSpec Rows.callsNamesRow = true := by kernel_rfl
theorem Qmj : jf27 Tryz.prog 3 Tryz.f3 Rows.callsNamesSpec Rows.callsNamesRow = true := by kernel_rfl
theorem Qmz : jf28 Tryz.prog 3 Tryz.f3 Rows.callsNamesSpec Rows.callsNamesRow = true := by kernel_rfl
theorem Qms : jf29 Tryz.prog 3 Tryz.f3 Rows.callsNamesSpec Rows.callsNamesRow = true := by kernel_rfl
theorem Qn6 : jf30 Tryz.prog 3 Tryz.f3 Rows.callsNamesSpec Rows.callsNamesRow = true := by kernel_rfl
theorem Qlx : jf31 Tryz.prog 3 Tryz.f3 Rows.callsNamesSpec Rows.callsNamesRow = true := by kernel_rfl
theorem Qny : jf32 Tryz.prog 3 Tryz.f3 Rows.callsNamesSpec Rows.callsNamesRow = true := by kernel_rfl
end
end Go.Proofs.YtgnnlchhfiomgaaGreatDoor
