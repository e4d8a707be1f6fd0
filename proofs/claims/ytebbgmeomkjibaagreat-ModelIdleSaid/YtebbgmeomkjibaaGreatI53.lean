/- This file holds in one the texts ZO41; each says at its head what it proves. -/
import Derived.Test.YtebbgmeomkjibaaGreatI50
import Derived.Test.YtebbgmeomkjibaaGreatI52
set_option linter.unusedSimpArgs false
set_option linter.unusedVariables false
section
/- ModelIdle: from what the abstract machine answers to the given row. Conditions: those of the given row, no other. -/
set_option maxRecDepth 100000
namespace Go.Proofs.YtebbgmeomkjibaaGreat
open Go.AM Go.Mod Go.ChangeShapes Go.WideShapes Go.ChangeAt Go.RowKit

theorem modelIdle_args : ∀ xs, ArgsRead Tryz.prog [22] xs → ∃ H', callW Tryz.prog pol 3 xs [] = some (.ret (.bool true), H') := by
  intro xs h
  obtain ⟨n1, y1, r1, a1, rfl, rfl⟩ := h
  obtain ⟨l1, cs1, h1, g1⟩ := arg_calls a1
  exact fz_true (idle_law y1 cs1 l1 h1 g1)

theorem modelIdle_own : ownKnob Tryz.prog.godebug = none := by kernel_rfl
theorem modelIdle_lifted (os : Os) (started : os.Started) (H : Type) (enc : TypeId × Value → H) :
    ReturnsInHanded {} Tryz.checked os 3 .any (Rows.modelIdleSpec.pre6 enc Tryz.prog Tryz.f3 Rows.modelIdleRow.domain false) (Rows.modelIdleSpec.post enc Tryz.prog Tryz.f3 false true false false) := by
  refine returnsInHanded_of_change (C := Tryz.checked) modelIdle_own started (by kernel_rfl) Tryz.func3
    (ChangeSpec.witness6 (enc := enc) (C := Tryz.checked) false ⟨#[], #[.slice none 0 0], []⟩ 8 (by kernel_rfl) (by kernel_rfl) (by kernel_rfl) (by kernel_rfl)) ?_
  intro W base args ds gs before hval hW _ _
  exact law_contract (ts := [22]) (tb := 4) (book := [22, 32, 5, 3, 9, 30]) ok (by kernel_rfl) (congrArg Array.toList Tryz.params3) (by kernel_rfl) Tryz.underlying4 (by kernel_rfl) (by kernel_rfl) (s := Rows.modelIdleSpec) rfl
    (fun ds hd => by
      match ds, hd with
      | [_], _ => exact ⟨rfl, rfl, rfl⟩)
    modelIdle_args hval hW

theorem modelIdle_holds : Rows.ModelIdleSaid :=
  OpenClaim.holds_of_wide 3 Tryz.f3 rfl rfl rfl rfl rfl rfl rfl ⟨rfl, rfl, rfl, rfl, rfl⟩ rfl rfl rfl rfl rfl (by kernel_rfl) Tryz.func3 (by kernel_rfl)
    (of_decide_eq_true (by kernel_rfl)) (by unfold Func.isWrapper; first | (rw [if_pos (by decide +kernel)]; kernel_rfl) | (rw [if_neg (by decide +kernel)]; exact ⟨rfl, rfl⟩))
    (fun os started H enc _ => modelIdle_lifted os started H enc)
#print axioms modelIdle_holds
end Go.Proofs.YtebbgmeomkjibaaGreat
end
