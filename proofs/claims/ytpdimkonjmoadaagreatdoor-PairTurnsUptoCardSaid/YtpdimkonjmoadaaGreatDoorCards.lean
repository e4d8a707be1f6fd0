/-
  DERIVED. GIVEN WITH THE SEED: THE CARDS: each row of YtpdimkonjmoadaaGreatDoorRows.lean that lists a variable, with what it lists TIED to the program's text (the seventh form; the later family's looks); each row that meets fmt, with fmt's text TOLD by the authors' own Lean function (tested against real Go, not proved from fmt's source: count such statements apart). THE CARD IS WHAT COUNTS. Prove the row's statement (the work); the ties are given (YtpdimkonjmoadaaGreatDoorTie.lean); close each card by the builder's one call (the guide's Derived/Test/ToyasCard.lean, 'card_holds'). Laid BY PROGRAM, IN A SANDBOX (cutbox-door.mjs). By AI agents, Wed Nov 11 2026. No macro, syntax, notation, axiom, sorry.
-/
import Derived.Test.YtpdimkonjmoadaaGreatDoorRows
import GoSem.ClaimSeven
namespace Go.Proofs.YtpdimkonjmoadaaGreatDoor
namespace Rows

/-- THE TIED CARD OF 'charterhouselaw31.PairTurns'. -/
def pairTurnsCard : Claim7 := { stood := { row := pairTurnsRow, standIns := [], harness := (true, "3d35e19fd35679d13841df837fec31f6aad41f7de13e9b399511f492a3a692fd"), looks := true }, kinds := [], alts := [], laidByText := true, laidKinds := [.data, .pinned], laidTests := true, laidLooks := .later }
def PairTurnsCardSaid : Prop := Claim7.holds Tryz.pinned (.plain (OpenSpec.ofChange pairTurnsSpec)) pairTurnsCard

/-- THE SECOND FORM's CARD OF 'charterhouselaw31.PairTurns'. -/
def pairTurnsUptoCard : Claim7 := { stood := { row := pairTurnsUptoRow, standIns := [], harness := (true, "3d35e19fd35679d13841df837fec31f6aad41f7de13e9b399511f492a3a692fd"), looks := true }, kinds := [], alts := [], laidByText := true, laidKinds := [.data, .pinned], laidTests := true, laidLooks := .later }
def PairTurnsUptoCardSaid : Prop := Claim7.holds Tryz.pinned (.plain (OpenSpec.upto pairTurnsSpec)) pairTurnsUptoCard
end Rows
end Go.Proofs.YtpdimkonjmoadaaGreatDoor
