/- ModelNames: from what the abstract machine answers to the given row. Conditions: those of the given row, no other. -/
import Derived.Test.YtebbgmeomkjibaaM2
import Derived.Test.YtebbgmeomkjibaaRows
import Derived.ProofKit
import Derived.OpenShut
set_option linter.unusedSimpArgs false
set_option linter.unusedVariables false
namespace Go.Proofs.Ytebbgmeomkjibaa
open Go.AM Go.ChangeShapes Go.WideShapes Go.ChangeAt Go.RowKit

theorem names_args : ∀ xs, ArgsRead Try.prog [] xs → ∃ H', callW Try.prog polN 3 xs [] = some (.ret (.bool true), H') := by
  intro xs h
  cases xs with
  | nil => exact ⟨[], names_law⟩
  | cons x xs => exact absurd h (by simp [ArgsRead])

theorem modelNames_own : ownKnob Try.prog.godebug = none := by kernel_rfl
set_option maxRecDepth 100000 in
theorem modelNames_lifted (os : Os) (started : os.Started) (H : Type) (enc : TypeId × Value → H) :
    ReturnsInHanded {} Try.checked os 3 .any (Rows.modelNamesSpec.pre6 enc Try.prog Try.f3 Rows.modelNamesRow.domain false) (Rows.modelNamesSpec.post enc Try.prog Try.f3 false true false false) := by
  refine returnsInHanded_of_change (C := Try.checked) modelNames_own started (by kernel_rfl) Try.func3
    (ChangeSpec.witness6 (enc := enc) (C := Try.checked) false ⟨#[], #[], []⟩ 8 (by kernel_rfl) (by kernel_rfl) (by kernel_rfl) (by kernel_rfl)) ?_
  intro W base args ds gs before hval hW _ _
  exact law_contract (ts := []) (tb := 4) (book := []) okN (by kernel_rfl) (congrArg Array.toList Try.params3) (by kernel_rfl) Try.underlying4 (by kernel_rfl) (by kernel_rfl) (s := Rows.modelNamesSpec) rfl
    (fun ds hd => by
      match ds, hd with
      | [], _ => exact ⟨rfl, rfl, rfl⟩)
    names_args hval hW

theorem modelNames_holds : Rows.ModelNamesSaid :=
  OpenClaim.holds_of_wide 3 Try.f3 rfl rfl rfl rfl rfl rfl rfl ⟨rfl, rfl, rfl, rfl, rfl⟩ rfl rfl rfl rfl rfl (by kernel_rfl) Try.func3 (by kernel_rfl)
    (of_decide_eq_true (by kernel_rfl)) (by unfold Func.isWrapper; first | (rw [if_pos (by decide +kernel)]; kernel_rfl) | (rw [if_neg (by decide +kernel)]; exact ⟨rfl, rfl⟩))
    (fun os started H enc _ => modelNames_lifted os started H enc)
#print axioms modelNames_holds
end Go.Proofs.Ytebbgmeomkjibaa
