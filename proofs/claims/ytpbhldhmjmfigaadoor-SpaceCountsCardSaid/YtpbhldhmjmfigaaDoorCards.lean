/-
  DERIVED. GIVEN WITH THE SEED: THE CARDS: each row of YtpbhldhmjmfigaaDoorRows.lean that lists a variable, with what it lists TIED to the program's text (the seventh form; the later family's looks); each row that meets fmt, with fmt's text TOLD by the authors' own Lean function (tested against real Go, not proved from fmt's source: count such statements apart). THE CARD IS WHAT COUNTS. Prove the row's statement (the work); the ties are given (YtpbhldhmjmfigaaDoorTie.lean); close each card by the builder's one call (the guide's Derived/Test/ToyasCard.lean, 'card_holds'). Laid BY PROGRAM, IN A SANDBOX (cutbox-door.mjs). By AI agents, Wed Nov 11 2026. No macro, syntax, notation, axiom, sorry.
-/
import Derived.Test.YtpbhldhmjmfigaaDoorRows
import GoSem.ClaimSeven
namespace Go.Proofs.YtpbhldhmjmfigaaDoor
namespace Rows

/-- THE TIED CARD OF 'charterhouselaw12.SpaceNames'. -/
def spaceNamesCard : Claim7 := { stood := { row := spaceNamesRow, standIns := [], harness := (true, "d6c17f060a758332194e189ce39cd7544c383778e33bf85dac139a26c864d123"), looks := false }, kinds := [], alts := [], laidByText := true, laidKinds := [.data, .pinned], laidTests := true, laidLooks := .later }
def SpaceNamesCardSaid : Prop := Claim7.holds Tryd.pinned (.plain (OpenSpec.ofChange spaceNamesSpec)) spaceNamesCard

/-- THE TIED CARD OF 'charterhouselaw12.SpaceTables'. -/
def spaceTablesCard : Claim7 := { stood := { row := spaceTablesRow, standIns := [], harness := (true, "d6c17f060a758332194e189ce39cd7544c383778e33bf85dac139a26c864d123"), looks := false }, kinds := [], alts := [], laidByText := true, laidKinds := [.data, .pinned], laidTests := true, laidLooks := .later }
def SpaceTablesCardSaid : Prop := Claim7.holds Tryd.pinned (.plain (OpenSpec.ofChange spaceTablesSpec)) spaceTablesCard

/-- THE TIED CARD OF 'charterhouselaw12.SpaceKeeps'. -/
def spaceKeepsCard : Claim7 := { stood := { row := spaceKeepsRow, standIns := [], harness := (true, "d6c17f060a758332194e189ce39cd7544c383778e33bf85dac139a26c864d123"), looks := false }, kinds := [], alts := [], laidByText := true, laidKinds := [.data, .pinned], laidTests := true, laidLooks := .later }
def SpaceKeepsCardSaid : Prop := Claim7.holds Tryd.pinned (.plain (OpenSpec.ofChange spaceKeepsSpec)) spaceKeepsCard

/-- THE TIED CARD OF 'charterhouselaw12.SpaceCounts'. -/
def spaceCountsCard : Claim7 := { stood := { row := spaceCountsRow, standIns := [], harness := (true, "d6c17f060a758332194e189ce39cd7544c383778e33bf85dac139a26c864d123"), looks := false }, kinds := [], alts := [], laidByText := true, laidKinds := [.data, .pinned], laidTests := true, laidLooks := .later }
def SpaceCountsCardSaid : Prop := Claim7.holds Tryd.pinned (.plain (OpenSpec.ofChange spaceCountsSpec)) spaceCountsCard

/-- THE TIED CARD OF 'charterhouselaw12.SpaceOrder'. -/
def spaceOrderCard : Claim7 := { stood := { row := spaceOrderRow, standIns := [], harness := (true, "d6c17f060a758332194e189ce39cd7544c383778e33bf85dac139a26c864d123"), looks := false }, kinds := [], alts := [], laidByText := true, laidKinds := [.data, .pinned], laidTests := true, laidLooks := .later }
def SpaceOrderCardSaid : Prop := Claim7.holds Tryd.pinned (.plain (OpenSpec.ofChange spaceOrderSpec)) spaceOrderCard

/-- THE SECOND FORM's CARD OF 'charterhouselaw12.SpaceNames'. -/
def spaceNamesUptoCard : Claim7 := { stood := { row := spaceNamesUptoRow, standIns := [], harness := (true, "d6c17f060a758332194e189ce39cd7544c383778e33bf85dac139a26c864d123"), looks := false }, kinds := [], alts := [], laidByText := true, laidKinds := [.data, .pinned], laidTests := true, laidLooks := .later }
def SpaceNamesUptoCardSaid : Prop := Claim7.holds Tryd.pinned (.plain (OpenSpec.upto spaceNamesSpec)) spaceNamesUptoCard

/-- THE SECOND FORM's CARD OF 'charterhouselaw12.SpaceTables'. -/
def spaceTablesUptoCard : Claim7 := { stood := { row := spaceTablesUptoRow, standIns := [], harness := (true, "d6c17f060a758332194e189ce39cd7544c383778e33bf85dac139a26c864d123"), looks := false }, kinds := [], alts := [], laidByText := true, laidKinds := [.data, .pinned], laidTests := true, laidLooks := .later }
def SpaceTablesUptoCardSaid : Prop := Claim7.holds Tryd.pinned (.plain (OpenSpec.upto spaceTablesSpec)) spaceTablesUptoCard

/-- THE SECOND FORM's CARD OF 'charterhouselaw12.SpaceKeeps'. -/
def spaceKeepsUptoCard : Claim7 := { stood := { row := spaceKeepsUptoRow, standIns := [], harness := (true, "d6c17f060a758332194e189ce39cd7544c383778e33bf85dac139a26c864d123"), looks := false }, kinds := [], alts := [], laidByText := true, laidKinds := [.data, .pinned], laidTests := true, laidLooks := .later }
def SpaceKeepsUptoCardSaid : Prop := Claim7.holds Tryd.pinned (.plain (OpenSpec.upto spaceKeepsSpec)) spaceKeepsUptoCard

/-- THE SECOND FORM's CARD OF 'charterhouselaw12.SpaceCounts'. -/
def spaceCountsUptoCard : Claim7 := { stood := { row := spaceCountsUptoRow, standIns := [], harness := (true, "d6c17f060a758332194e189ce39cd7544c383778e33bf85dac139a26c864d123"), looks := false }, kinds := [], alts := [], laidByText := true, laidKinds := [.data, .pinned], laidTests := true, laidLooks := .later }
def SpaceCountsUptoCardSaid : Prop := Claim7.holds Tryd.pinned (.plain (OpenSpec.upto spaceCountsSpec)) spaceCountsUptoCard

/-- THE SECOND FORM's CARD OF 'charterhouselaw12.SpaceOrder'. -/
def spaceOrderUptoCard : Claim7 := { stood := { row := spaceOrderUptoRow, standIns := [], harness := (true, "d6c17f060a758332194e189ce39cd7544c383778e33bf85dac139a26c864d123"), looks := false }, kinds := [], alts := [], laidByText := true, laidKinds := [.data, .pinned], laidTests := true, laidLooks := .later }
def SpaceOrderUptoCardSaid : Prop := Claim7.holds Tryd.pinned (.plain (OpenSpec.upto spaceOrderSpec)) spaceOrderUptoCard
end Rows
end Go.Proofs.YtpbhldhmjmfigaaDoor
