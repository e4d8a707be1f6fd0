/-
  DERIVED. GIVEN WITH THE SEED: THE CARDS: each row of YtafhcdagifopeaaGreatDoorRows.lean that lists a variable, with what it lists TIED to the program's text (the seventh form; the later family's looks); each row that meets fmt, with fmt's text TOLD by the authors' own Lean function (tested against real Go, not proved from fmt's source: count such statements apart). THE CARD IS WHAT COUNTS. Prove the row's statement (the work); the ties are given (YtafhcdagifopeaaGreatDoorTie.lean); close each card by the builder's one call (the guide's Derived/Test/ToyasCard.lean, 'card_holds'). Laid BY PROGRAM, IN A SANDBOX (cutbox-door.mjs). By AI agents, Wed Nov 11 2026. No macro, syntax, notation, axiom, sorry.
-/
import Derived.Test.YtafhcdagifopeaaGreatDoorRows
import GoSem.ClaimSeven
namespace Go.Proofs.YtafhcdagifopeaaGreatDoor
namespace Rows

/-- THE TIED CARD OF 'charterhouselaw24.DirNames'. -/
def dirNamesCard : Claim7 := { stood := { row := dirNamesRow, standIns := [], harness := (true, "295de9240478f46306f839446db11d5e5b6969098a567139f44f2fdb15d1f1c7"), looks := false }, kinds := [], alts := [], laidByText := true, laidKinds := [.data, .pinned], laidTests := true, laidLooks := .later }
def DirNamesCardSaid : Prop := Claim7.holds Tryz.pinned (.plain (OpenSpec.ofChange dirNamesSpec)) dirNamesCard

/-- THE TIED CARD OF 'charterhouselaw25.FileNames'. -/
def fileNamesCard : Claim7 := { stood := { row := fileNamesRow, standIns := [], harness := (true, "295de9240478f46306f839446db11d5e5b6969098a567139f44f2fdb15d1f1c7"), looks := false }, kinds := [], alts := [], laidByText := true, laidKinds := [.data, .pinned], laidTests := true, laidLooks := .later }
def FileNamesCardSaid : Prop := Claim7.holds Tryz.pinned (.plain (OpenSpec.ofChange fileNamesSpec)) fileNamesCard

/-- THE SECOND FORM's CARD OF 'charterhouselaw24.DirNames'. -/
def dirNamesUptoCard : Claim7 := { stood := { row := dirNamesUptoRow, standIns := [], harness := (true, "295de9240478f46306f839446db11d5e5b6969098a567139f44f2fdb15d1f1c7"), looks := false }, kinds := [], alts := [], laidByText := true, laidKinds := [.data, .pinned], laidTests := true, laidLooks := .later }
def DirNamesUptoCardSaid : Prop := Claim7.holds Tryz.pinned (.plain (OpenSpec.upto dirNamesSpec)) dirNamesUptoCard

/-- THE SECOND FORM's CARD OF 'charterhouselaw25.FileNames'. -/
def fileNamesUptoCard : Claim7 := { stood := { row := fileNamesUptoRow, standIns := [], harness := (true, "295de9240478f46306f839446db11d5e5b6969098a567139f44f2fdb15d1f1c7"), looks := false }, kinds := [], alts := [], laidByText := true, laidKinds := [.data, .pinned], laidTests := true, laidLooks := .later }
def FileNamesUptoCardSaid : Prop := Claim7.holds Tryz.pinned (.plain (OpenSpec.upto fileNamesSpec)) fileNamesUptoCard
end Rows
end Go.Proofs.YtafhcdagifopeaaGreatDoor
