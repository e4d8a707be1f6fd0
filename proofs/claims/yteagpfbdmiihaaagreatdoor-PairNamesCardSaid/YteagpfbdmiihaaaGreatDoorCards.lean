/-
  DERIVED. GIVEN WITH THE SEED: THE CARDS: each row of YteagpfbdmiihaaaGreatDoorRows.lean that lists a variable, with what it lists TIED to the program's text (the seventh form; the later family's looks); each row that meets fmt, with fmt's text TOLD by the authors' own Lean function (tested against real Go, not proved from fmt's source: count such statements apart). THE CARD IS WHAT COUNTS. Prove the row's statement (the work); the ties are given (YteagpfbdmiihaaaGreatDoorTie.lean); close each card by the builder's one call (the guide's Derived/Test/ToyasCard.lean, 'card_holds'). Laid BY PROGRAM, IN A SANDBOX (cutbox-door.mjs). By AI agents, Wed Nov 11 2026. No macro, syntax, notation, axiom, sorry.
-/
import Derived.Test.YteagpfbdmiihaaaGreatDoorRows
import GoSem.ClaimSeven
namespace Go.Proofs.YteagpfbdmiihaaaGreatDoor
namespace Rows

/-- THE TIED CARD OF 'charterhouselaw31.PairNames'. -/
def pairNamesCard : Claim7 := { stood := { row := pairNamesRow, standIns := [], harness := (true, "d38da6c490367e7002839a9a64d4e42e40db4c67e332837f849a3aec3f546e6f"), looks := true }, kinds := [], alts := [], laidByText := true, laidKinds := [.data, .pinned], laidTests := true, laidLooks := .later }
def PairNamesCardSaid : Prop := Claim7.holds Tryz.pinned (.plain (OpenSpec.ofChange pairNamesSpec)) pairNamesCard

/-- THE SECOND FORM's CARD OF 'charterhouselaw31.PairNames'. -/
def pairNamesUptoCard : Claim7 := { stood := { row := pairNamesUptoRow, standIns := [], harness := (true, "d38da6c490367e7002839a9a64d4e42e40db4c67e332837f849a3aec3f546e6f"), looks := true }, kinds := [], alts := [], laidByText := true, laidKinds := [.data, .pinned], laidTests := true, laidLooks := .later }
def PairNamesUptoCardSaid : Prop := Claim7.holds Tryz.pinned (.plain (OpenSpec.upto pairNamesSpec)) pairNamesUptoCard
end Rows
end Go.Proofs.YteagpfbdmiihaaaGreatDoor
