/-
  DERIVED. GIVEN WITH THE SEED: THE CARDS: each row of YtgnnlchhfiomgaaGreatDoorRows.lean that lists a variable, with what it lists TIED to the program's text (the seventh form; the later family's looks); each row that meets fmt, with fmt's text TOLD by the authors' own Lean function (tested against real Go, not proved from fmt's source: count such statements apart). THE CARD IS WHAT COUNTS. Prove the row's statement (the work); the ties are given (YtgnnlchhfiomgaaGreatDoorTie.lean); close each card by the builder's one call (the guide's Derived/Test/ToyasCard.lean, 'card_holds'). Laid BY PROGRAM, IN A SANDBOX (cutbox-door.mjs). By AI agents, Wed Nov 11 2026. No macro, syntax, notation, axiom, sorry.
-/
import Derived.Test.YtgnnlchhfiomgaaGreatDoorRows
import GoSem.ClaimSeven
namespace Go.Proofs.YtgnnlchhfiomgaaGreatDoor
namespace Rows

/-- THE TIED CARD OF 'charterhouselaw27.CallsNames'. -/
def callsNamesCard : Claim7 := { stood := { row := callsNamesRow, standIns := [], harness := (true, "3a385ab0e0decc68f70a81995295ba061ed894ac36a5b6a070e06cba5732618a"), looks := true }, kinds := [], alts := [], laidByText := true, laidKinds := [.data, .pinned], laidTests := true, laidLooks := .later }
def CallsNamesCardSaid : Prop := Claim7.holds Tryz.pinned (.plain (OpenSpec.ofChange callsNamesSpec)) callsNamesCard

/-- THE SECOND FORM's CARD OF 'charterhouselaw27.CallsNames'. -/
def callsNamesUptoCard : Claim7 := { stood := { row := callsNamesUptoRow, standIns := [], harness := (true, "3a385ab0e0decc68f70a81995295ba061ed894ac36a5b6a070e06cba5732618a"), looks := true }, kinds := [], alts := [], laidByText := true, laidKinds := [.data, .pinned], laidTests := true, laidLooks := .later }
def CallsNamesUptoCardSaid : Prop := Claim7.holds Tryz.pinned (.plain (OpenSpec.upto callsNamesSpec)) callsNamesUptoCard
end Rows
end Go.Proofs.YtgnnlchhfiomgaaGreatDoor
