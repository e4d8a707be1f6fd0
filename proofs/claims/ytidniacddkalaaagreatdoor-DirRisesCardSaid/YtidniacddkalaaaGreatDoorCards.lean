/-
  DERIVED. GIVEN WITH THE SEED: THE CARDS: each row of YtidniacddkalaaaGreatDoorRows.lean that lists a variable, with what it lists TIED to the program's text (the seventh form; the later family's looks); each row that meets fmt, with fmt's text TOLD by the authors' own Lean function (tested against real Go, not proved from fmt's source: count such statements apart). THE CARD IS WHAT COUNTS. Prove the row's statement (the work); the ties are given (YtidniacddkalaaaGreatDoorTie.lean); close each card by the builder's one call (the guide's Derived/Test/ToyasCard.lean, 'card_holds'). Laid BY PROGRAM, IN A SANDBOX (cutbox-door.mjs). By AI agents, Wed Nov 11 2026. No macro, syntax, notation, axiom, sorry.
-/
import Derived.Test.YtidniacddkalaaaGreatDoorRows
import GoSem.ClaimSeven
namespace Go.Proofs.YtidniacddkalaaaGreatDoor
namespace Rows

/-- THE TIED CARD OF 'charterhouselaw24.DirRises'. -/
def dirRisesCard : Claim7 := { stood := { row := dirRisesRow, standIns := [], harness := (true, "662d13c90b86acd0366c191c29cb6f3a429884f32995622e16066053c46808c6"), looks := false }, kinds := [], alts := [], laidByText := true, laidKinds := [.data, .pinned], laidTests := true, laidLooks := .later }
def DirRisesCardSaid : Prop := Claim7.holds Tryz.pinned (.plain (OpenSpec.ofChange dirRisesSpec)) dirRisesCard

/-- THE SECOND FORM's CARD OF 'charterhouselaw24.DirRises'. -/
def dirRisesUptoCard : Claim7 := { stood := { row := dirRisesUptoRow, standIns := [], harness := (true, "662d13c90b86acd0366c191c29cb6f3a429884f32995622e16066053c46808c6"), looks := false }, kinds := [], alts := [], laidByText := true, laidKinds := [.data, .pinned], laidTests := true, laidLooks := .later }
def DirRisesUptoCardSaid : Prop := Claim7.holds Tryz.pinned (.plain (OpenSpec.upto dirRisesSpec)) dirRisesUptoCard
end Rows
end Go.Proofs.YtidniacddkalaaaGreatDoor
