/- This file holds in one the texts ZO46; each says at its head what it proves. -/
import Derived.Test.YtebbgmeomkjibaaGreatI50
import Derived.Test.YtebbgmeomkjibaaGreatI58
set_option linter.unusedSimpArgs false
set_option linter.unusedVariables false
section
/- ModelCopies: from what the abstract machine answers to the given row. Conditions: those of the given row, no other. -/
set_option maxRecDepth 100000
namespace Go.Proofs.YtebbgmeomkjibaaGreat
open Go.AM Go.Mod Go.ChangeShapes Go.WideShapes Go.ChangeAt Go.RowKit

theorem arg_int {n : Nat} {y : V} (h : ArgRead Tryz.prog n 3 y) : ∃ m, y = .int .i64 m := by
  unfold ArgRead at h
  rw [Tryz.underlying3] at h
  cases n with
  | zero => exact h.elim
  | succ n =>
    simp only [Reads, Tryz.underlying3] at h
    obtain ⟨s, h, _⟩ := h
    cases h
    exact ⟨s, rfl⟩
theorem modelCopies_args : ∀ xs, ArgsRead Tryz.prog [22, 3, 9] xs → ∃ H', callW Tryz.prog pol 4 xs [] = some (.ret (.bool true), H') := by
  intro xs h
  obtain ⟨n1, y1, r1, a1, ⟨n2, y2, r2, a2, ⟨n3, y3, r3, a3, rfl, rfl⟩, rfl⟩, rfl⟩ := h
  obtain ⟨l1, cs1, h1, g1⟩ := arg_calls a1
  obtain ⟨m2, rfl⟩ := arg_int a2
  obtain ⟨m3, rfl⟩ := arg_str a3
  exact fz_true (copies_fz y1 cs1 l1 m2 m3 h1 g1)

theorem modelCopies_own : ownKnob Tryz.prog.godebug = none := by kernel_rfl
theorem modelCopies_lifted (os : Os) (started : os.Started) (H : Type) (enc : TypeId × Value → H) :
    ReturnsInHanded {} Tryz.checked os 4 .any (Rows.modelCopiesSpec.pre6 enc Tryz.prog Tryz.f4 Rows.modelCopiesRow.domain false) (Rows.modelCopiesSpec.post enc Tryz.prog Tryz.f4 false true false false) := by
  refine returnsInHanded_of_change (C := Tryz.checked) modelCopies_own started (by kernel_rfl) Tryz.func4
    (ChangeSpec.witness6 (enc := enc) (C := Tryz.checked) false ⟨#[], #[.slice none 0 0, .int .i64 0, .string ByteArray.empty], []⟩ 8 (by kernel_rfl) (by kernel_rfl) (by kernel_rfl) (by kernel_rfl)) ?_
  intro W base args ds gs before hval hW _ _
  exact law_contract (ts := [22, 3, 9]) (tb := 4) (book := [22, 32, 5, 3, 9, 30]) ok (by kernel_rfl) (congrArg Array.toList Tryz.params4) (by kernel_rfl) Tryz.underlying4 (by kernel_rfl) (by kernel_rfl) (s := Rows.modelCopiesSpec) rfl
    (fun ds hd => by
      match ds, hd with
      | [_, _, _], _ => exact ⟨rfl, rfl, rfl⟩)
    modelCopies_args hval hW

theorem modelCopies_holds : Rows.ModelCopiesSaid :=
  OpenClaim.holds_of_wide 4 Tryz.f4 rfl rfl rfl rfl rfl rfl rfl ⟨rfl, rfl, rfl, rfl, rfl⟩ rfl rfl rfl rfl rfl (by kernel_rfl) Tryz.func4 (by kernel_rfl)
    (of_decide_eq_true (by kernel_rfl)) (by unfold Func.isWrapper; first | (rw [if_pos (by decide +kernel)]; kernel_rfl) | (rw [if_neg (by decide +kernel)]; exact ⟨rfl, rfl⟩))
    (fun os started H enc _ => modelCopies_lifted os started H enc)
#print axioms modelCopies_holds
end Go.Proofs.YtebbgmeomkjibaaGreat
end
