/- This file holds in one the texts O34; each says at its head what it proves. -/
import Derived.Test.YtebbgmeomkjibaaQ49
import Derived.Test.YtebbgmeomkjibaaQ50
set_option linter.unusedSimpArgs false
set_option linter.unusedVariables false
section
/- ModelStays: from what the abstract machine answers to the given row. Conditions: those of the given row, no other. -/
set_option maxRecDepth 100000
namespace Go.Proofs.Ytebbgmeomkjibaa
open Go.AM Go.Mod Go.ChangeShapes Go.WideShapes Go.ChangeAt Go.RowKit

theorem arg_str {n : Nat} {y : V} (h : ArgRead Try.prog n 9 y) : ∃ s, y = .str s := by
  unfold ArgRead at h
  rw [Try.underlying9] at h
  cases n with
  | zero => exact h.elim
  | succ n =>
    simp only [Reads, Try.underlying9] at h
    obtain ⟨s, h, _⟩ := h
    cases h
    exact ⟨s, rfl⟩
theorem stays_args : ∀ xs, ArgsRead Try.prog [30, 30, 9] xs → ∃ H', callW Try.prog pol 5 xs [] = some (.ret (.bool true), H') := by
  intro xs h
  obtain ⟨n1, y1, r1, a1, ⟨n2, y2, r2, a2, ⟨n3, y3, r3, a3, rfl, rfl⟩, rfl⟩, rfl⟩ := h
  obtain ⟨l, cs, h1, h2⟩ := arg_calls a1
  obtain ⟨more, ds, h3, h4⟩ := arg_calls a2
  obtain ⟨nm, rfl⟩ := arg_str a3
  exact fz_true (stays_law y1 y2 cs ds l more nm h1 h3 h2 h4)

theorem modelStays_own : ownKnob Try.prog.godebug = none := by kernel_rfl
theorem modelStays_lifted (os : Os) (started : os.Started) (H : Type) (enc : TypeId × Value → H) :
    ReturnsInHanded {} Try.checked os 5 .any (Rows.modelStaysSpec.pre6 enc Try.prog Try.f5 Rows.modelStaysRow.domain false) (Rows.modelStaysSpec.post enc Try.prog Try.f5 false true false false) := by
  refine returnsInHanded_of_change (C := Try.checked) modelStays_own started (by kernel_rfl) Try.func5
    (ChangeSpec.witness6 (enc := enc) (C := Try.checked) false ⟨#[], #[.slice none 0 0, .slice none 0 0, .string ByteArray.empty], []⟩ 8 (by kernel_rfl) (by kernel_rfl) (by kernel_rfl) (by kernel_rfl)) ?_
  intro W base args ds gs before hval hW _ _
  exact law_contract (ts := [30, 30, 9]) (tb := 4) (book := [30, 28, 5, 3, 9, 26, 9]) ok (by kernel_rfl) (congrArg Array.toList Try.params5) (by kernel_rfl) Try.underlying4 (by kernel_rfl) (by kernel_rfl) (s := Rows.modelStaysSpec) rfl
    (fun ds hd => by
      match ds, hd with
      | [_, _, _], _ => exact ⟨rfl, rfl, rfl⟩)
    stays_args hval hW

theorem modelStays_holds : Rows.ModelStaysSaid :=
  OpenClaim.holds_of_wide 5 Try.f5 rfl rfl rfl rfl rfl rfl rfl ⟨rfl, rfl, rfl, rfl, rfl⟩ rfl rfl rfl rfl rfl (by kernel_rfl) Try.func5 (by kernel_rfl)
    (of_decide_eq_true (by kernel_rfl)) (by unfold Func.isWrapper; first | (rw [if_pos (by decide +kernel)]; kernel_rfl) | (rw [if_neg (by decide +kernel)]; exact ⟨rfl, rfl⟩))
    (fun os started H enc _ => modelStays_lifted os started H enc)
#print axioms modelStays_holds
end Go.Proofs.Ytebbgmeomkjibaa
end
