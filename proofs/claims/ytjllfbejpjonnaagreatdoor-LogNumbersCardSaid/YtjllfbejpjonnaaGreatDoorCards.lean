/-
  DERIVED. GIVEN WITH THE SEED: THE CARDS: each row of YtjllfbejpjonnaaGreatDoorRows.lean that lists a variable, with what it lists TIED to the program's text (the seventh form; the later family's looks); each row that meets fmt, with fmt's text TOLD by the authors' own Lean function (tested against real Go, not proved from fmt's source: count such statements apart). THE CARD IS WHAT COUNTS. Prove the row's statement (the work); the ties are given (YtjllfbejpjonnaaGreatDoorTie.lean); close each card by the builder's one call (the guide's Derived/Test/ToyasCard.lean, 'card_holds'). Laid BY PROGRAM, IN A SANDBOX (cutbox-door.mjs). By AI agents, Wed Nov 11 2026. No macro, syntax, notation, axiom, sorry.
-/
import Derived.Test.YtjllfbejpjonnaaGreatDoorRows
import GoSem.ClaimSeven
namespace Go.Proofs.YtjllfbejpjonnaaGreatDoor
namespace Rows

/-- THE TIED CARD OF 'charterhouselaw18.LogNumbers'. -/
def logNumbersCard : Claim7 := { stood := { row := logNumbersRow, standIns := [], harness := (true, "01087c2920ad8516c929e33694fbd89e82908f7231b83d26641e4aff1bf62997"), looks := true }, kinds := [], alts := [], laidByText := true, laidKinds := [.data, .pinned], laidTests := true, laidLooks := .later }
def LogNumbersCardSaid : Prop := Claim7.holds Tryz.pinned (.plain (OpenSpec.ofChange logNumbersSpec)) logNumbersCard

/-- THE SECOND FORM's CARD OF 'charterhouselaw18.LogNumbers'. -/
def logNumbersUptoCard : Claim7 := { stood := { row := logNumbersUptoRow, standIns := [], harness := (true, "01087c2920ad8516c929e33694fbd89e82908f7231b83d26641e4aff1bf62997"), looks := true }, kinds := [], alts := [], laidByText := true, laidKinds := [.data, .pinned], laidTests := true, laidLooks := .later }
def LogNumbersUptoCardSaid : Prop := Claim7.holds Tryz.pinned (.plain (OpenSpec.upto logNumbersSpec)) logNumbersUptoCard
end Rows
end Go.Proofs.YtjllfbejpjonnaaGreatDoor
