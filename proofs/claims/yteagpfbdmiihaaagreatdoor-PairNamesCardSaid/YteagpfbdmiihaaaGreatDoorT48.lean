/- This file holds in one the texts Cpj; each says at its head what it proves. -/
import Derived.Test.YteagpfbdmiihaaaGreatDoorT28
import Derived.Test.YteagpfbdmiihaaaGreatDoorCards
import Derived.Test.YteagpfbdmiihaaaGreatDoorTie
import Derived.KernelRfl
set_option linter.unusedSimpArgs false
set_option linter.unusedVariables false
namespace Go.Proofs.YteagpfbdmiihaaaGreatDoor
section
theorem Qrs : jf1 Tryz.prog 3 Tryz.f3 Rows.pairNamesSpec Rows.pairNamesRow = true := by kernel_rfl
theorem Qrz : jf2 Tryz.prog 3 Tryz.f3 Rows.pairNamesSpec Rows.pairNamesRow = true := by kernel_rfl
theorem Qqy : jf3 Tryz.prog 3 Tryz.f3 Rows.pairNamesSpec Rows.pairNamesRow = true := by kernel_rfl
theorem Qrp : jf4 Tryz.prog 3 Tryz.f3 Rows.pairNamesSpec Rows.pairNamesRow = true := by kernel_rfl
theorem Qr7 : jf5 Tryz.prog 3 Tryz.f3 Rows.pairNamesSpec Rows.pairNamesRow = true := by kernel_rfl
theorem Qr6 : jf6 Tryz.prog 3 Tryz.f3 Rows.pairNamesSpec Rows.pairNamesRow = true := by kernel_rfl
theorem Qsx : jf7 Tryz.prog 3 Tryz.f3 Rows.pairNamesSpec Rows.pairNamesRow = true := by kernel_rfl
theorem Qra : jf8 Tryz.prog 3 Tryz.f3 Rows.pairNamesSpec Rows.pairNamesRow = true := by kernel_rfl
theorem Qr4 : jf9 Tryz.prog 3 Tryz.f3 Rows.pairNamesSpec Rows.pairNamesRow = true := by kernel_rfl
theorem Qpp : jf10 Tryz.prog 3 Tryz.f3 Rows.pairNamesSpec Rows.pairNamesRow = true := by kernel_rfl
theorem Qoa : jf11 Tryz.prog 3 Tryz.f3 Rows.pairNamesSpec Rows.pairNamesRow = true := by kernel_rfl
theorem Qn8 : jf12 Tryz.prog 3 Tryz.f3 Rows.pairNamesSpec Rows.pairNamesRow = true := by kernel_rfl
theorem Qpb : jf13 Tryz.prog 3 Tryz.f3 Rows.pairNamesSpec Rows.pairNamesRow = true := by kernel_rfl
theorem Qon : jf14 Tryz.prog 3 Tryz.f3 Rows.pairNamesSpec Rows.pairNamesRow = true := by kernel_rfl
theorem Qpn : jf15 Tryz.prog 3 Tryz.f3 Rows.pairNamesSpec Rows.pairNamesRow = true := by kernel_rfl
theorem Qoz : jf16 Tryz.prog 3 Tryz.f3 Rows.pairNamesSpec Rows.pairNamesRow = true := by kernel_rfl
theorem Qo9 : jf17 Tryz.prog 3 Tryz.f3 Rows.pairNamesSpec Rows.pairNamesRow = true := by kernel_rfl
theorem Qor : jf18 Tryz.prog 3 Tryz.f3 Rows.pairNamesSpec Rows.pairNamesRow = true := by kernel_rfl
theorem Qpc : jf19 Tryz.prog 3 Tryz.f3 Rows.pairNamesSpec Rows.pairNamesRow = true := by kernel_rfl
theorem Qok : jf20 Tryz.prog 3 Tryz.f3 Rows.pairNamesSpec Rows.pairNamesRow = true := by kernel_rfl
theorem Qom : jf21 Tryz.prog 3 Tryz.f3 Rows.pairNamesSpec Rows.pairNamesRow = true := by kernel_rfl
theorem Qpj : jf22 Tryz.prog 3 Tryz.f3 Rows.pairNamesSpec Rows.pairNamesRow = true := by kernel_rfl
theorem Qo1 : jf23 Tryz.prog 3 Tryz.f3 Rows.pairNamesSpec Rows.pairNamesRow = true := by kernel_rfl
theorem Qo4 : jf24 Tryz.prog 3 Tryz.f3 Rows.pairNamesSpec Rows.pairNamesRow = true := by kernel_rfl
theorem Qoe : jf25 Tryz.prog 3 Tryz.f3 Rows.pairNamesSpec Rows.pairNamesRow = true := by kernel_rfl
theorem Qpl : jf26 Tryz.prog 3 Tryz.f3 Rows.pairNamesSpec Rows.pairNamesRow = true := by kernel_rfl
theorem Qpk : jf27 Tryz.prog 3 Tryz.f3 Rows.pairNamesSpec Rows.pairNamesRow = true := by kernel_rfl
theorem Qoi : jf28 Tryz.prog 3 Tryz.f3 Rows.pairNamesSpec Rows.pairNamesRow = true := by kernel_rfl
theorem Qou : jf29 Tryz.prog 3 Tryz.f3 Rows.pairNamesSpec Rows.pairNamesRow = true := by kernel_rfl
theorem Qoh : jf30 Tryz.prog 3 Tryz.f3 Rows.pairNamesSpec Rows.pairNamesRow = true := by kernel_rfl
theorem Qpd : jf31 Tryz.prog 3 Tryz.f3 Rows.pairNamesSpec Rows.pairNamesRow = true := by kernel_rfl
theorem Qn6 : jf32 Tryz.prog 3 Tryz.f3 Rows.pairNamesSpec Rows.pairNamesRow = true := by kernel_rfl
def gG (F : Func) : Bool := !F.goes
theorem Q8i {P : Program} {c : OpenClaim} (h : P.funcs.all gG = true) (hs : c.start = .entering) : false = c.goesBy P := by
 have e1 : ∀ F ∈ P.funcs, F.goes = false := fun F hF => by
  have := Array.all_eq_true_iff_forall_mem.1 h F hF
  simpa [gG] using this
 have g0 : ∀ f, P.goes f = false := fun f => by
  unfold Program.goes
  rw [Bool.or_eq_false_iff]
  constructor
  . rw [List.any_eq_false]
    intro g _ hg
    cases hF : P.funcs[g]? with
    | none => rw [hF] at hg; cases hg
    | some F =>
      rw [hF] at hg
      have := e1 F (Array.mem_of_getElem? hF)
      simp only [Option.any_some] at hg
      rw [this] at hg; cases hg
  . rw [Bool.and_eq_false_iff]
    refine .inr ?_
    rw [<- Array.any_toList, List.any_eq_false]
    intro F hF
    simp [e1 F (Array.mem_toList_iff.1 hF)]
 unfold OpenClaim.goesBy Program.goesAt Program.goesFrom
 rw [hs]
 cases P.funcNamed c.func with
 | none => rfl
 | some f => simp [g0]
theorem Q3a : Tryz.prog.funcs.all gG = true := by kernel_rfl
theorem Qsd : Rows.pairNamesRow.wfByText (OpenSpec.ofChange Rows.pairNamesSpec) = true := by kernel_rfl
theorem Qtd : Tryz.prog.mainIs = some (true, "d38da6c490367e7002839a9a64d4e42e40db4c67e332837f849a3aec3f546e6f".toList) := by kernel_rfl
theorem Qre : Tryz.prog.funcNamed "charterhouse/charterhouselaw31.PairNames" = some 3 := by kernel_rfl
theorem Qq8 : true = Tryz.prog.looks [] := by kernel_rfl
theorem Qrb : false = Rows.pairNamesRow.goesBy Tryz.prog := Q8i Q3a rfl
end
end Go.Proofs.YteagpfbdmiihaaaGreatDoor
