/- This file holds in one the texts DYd2; each says at its head what it proves. -/
import Derived.Test.YtafhcdagifopeaaGreatDoorT29
import Derived.Test.YtafhcdagifopeaaGreatDoorT47
set_option linter.unusedSimpArgs false
set_option linter.unusedVariables false
section
/- DirNames: the law comes to true, whatever the arguments (there are none). -/
namespace Go.Proofs.YtafhcdagifopeaaGreatDoor
open Go.AM Go.AM.BM
theorem names_law : ∀ xs, ArgsRead Tryz.prog [] xs → ∃ m H', BM.callN Tryz.prog polL m (some 3) xs [[]] = some (.ret (.bool true), H') := by
  intro xs h
  have h' : xs = [] := h
  subst h'
  obtain ⟨H, e⟩ := isTrue_sound (P := Tryz.prog) (pol := polL) (nlC _) names_run
  exact ⟨_, H, e⟩
end Go.Proofs.YtafhcdagifopeaaGreatDoor
end
