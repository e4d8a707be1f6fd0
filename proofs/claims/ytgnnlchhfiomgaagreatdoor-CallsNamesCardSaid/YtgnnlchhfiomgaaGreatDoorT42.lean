/- This file holds in one the texts DYc2; each says at its head what it proves. -/
import Derived.Test.YtgnnlchhfiomgaaGreatDoorT20
import Derived.Test.YtgnnlchhfiomgaaGreatDoorT41
set_option linter.unusedSimpArgs false
set_option linter.unusedVariables false
namespace Go.Proofs.YtgnnlchhfiomgaaGreatDoor
section
open Go.AM Go.AM.BM
theorem names_law : ∀ xs, Qe5 Tryz.prog [] xs -> ∃ m H', BM.callN Tryz.prog polL m (some 3) xs [[]] = some (.ret (.bool true), H') := by
 intro xs h
 have h' : xs = [] := h
 subst h'
 obtain ⟨H, e⟩ := Qst (P := Tryz.prog) (pol := polL) (nlC _) names_run
 exact ⟨_, H, e⟩
end
end Go.Proofs.YtgnnlchhfiomgaaGreatDoor
