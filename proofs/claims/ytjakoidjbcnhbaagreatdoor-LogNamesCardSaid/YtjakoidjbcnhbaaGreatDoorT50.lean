/- This file holds in one the texts DYl2; each says at its head what it proves. -/
import Derived.Test.YtjakoidjbcnhbaaGreatDoorT31
import Derived.Test.YtjakoidjbcnhbaaGreatDoorT49
set_option linter.unusedSimpArgs false
set_option linter.unusedVariables false
section
/- LogNames: the law comes to true, whatever the arguments (there are none). -/
namespace Go.Proofs.YtjakoidjbcnhbaaGreatDoor
open Go.AM Go.AM.BM
theorem names_law : ∀ xs, ArgsRead Tryz.prog [] xs → ∃ m H', BM.callN Tryz.prog polX m (some 5) xs [[]] = some (.ret (.bool true), H') := by
  intro xs h
  have h' : xs = [] := h
  subst h'
  obtain ⟨H, e⟩ := isTrue_sound (P := Tryz.prog) (pol := polX) (fun _ _ => rfl) names_run
  exact ⟨_, H, e⟩
end Go.Proofs.YtjakoidjbcnhbaaGreatDoor
end
