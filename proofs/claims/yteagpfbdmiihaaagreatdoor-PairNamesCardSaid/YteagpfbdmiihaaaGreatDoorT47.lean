/- This file holds in one the texts DYp2; each says at its head what it proves. -/
import Derived.Test.YteagpfbdmiihaaaGreatDoorT20
import Derived.Test.YteagpfbdmiihaaaGreatDoorT46
set_option linter.unusedSimpArgs false
set_option linter.unusedVariables false
namespace Go.Proofs.YteagpfbdmiihaaaGreatDoor
section
open Go.AM Go.AM.BM
theorem Qz6 : ∀ xs, Qe7 Tryz.prog [] xs -> ∃ m H', BM.callN Tryz.prog polL m (some 3) xs [[]] = some (.ret (.bool true), H') := by
 intro xs h
 have h' : xs = [] := h
 subst h'
 obtain ⟨H, e⟩ := Qrk (P := Tryz.prog) (pol := polL) (nlC _) Q1s
 exact ⟨_, H, e⟩
end
end Go.Proofs.YteagpfbdmiihaaaGreatDoor
