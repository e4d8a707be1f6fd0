/- This file holds in one the texts DYf2; each says at its head what it proves. -/
import Derived.Test.YtafhcdagifopeaaGreatDoorT20
import Derived.Test.YtafhcdagifopeaaGreatDoorT41
set_option linter.unusedSimpArgs false
set_option linter.unusedVariables false
namespace Go.Proofs.YtafhcdagifopeaaGreatDoor
section
open Go.AM Go.AM.BM
theorem names_law : ∀ xs, Qeu Tryz.prog [] xs -> ∃ m H', BM.callN Tryz.prog polL m (some 4) xs [[]] = some (.ret (.bool true), H') := by
 intro xs h
 have h' : xs = [] := h
 subst h'
 obtain ⟨H, e⟩ := Qsv (P := Tryz.prog) (pol := polL) (nlC _) names_run
 exact ⟨_, H, e⟩
end
end Go.Proofs.YtafhcdagifopeaaGreatDoor
