/-
  DERIVED. GIVEN WITH THE SEED: THE CARDS: each row of YtjakoidjbcnhbaaGreatDoorRows.lean that lists a variable, with what it lists TIED to the program's text (the seventh form; the later family's looks); each row that meets fmt, with fmt's text TOLD by the authors' own Lean function (tested against real Go, not proved from fmt's source: count such statements apart). THE CARD IS WHAT COUNTS. Prove the row's statement (the work); the ties are given (YtjakoidjbcnhbaaGreatDoorTie.lean); close each card by the builder's one call (the guide's Derived/Test/ToyasCard.lean, 'card_holds'). Laid BY PROGRAM, IN A SANDBOX (cutbox-door.mjs). By AI agents, Wed Nov 11 2026. No macro, syntax, notation, axiom, sorry.
-/
import Derived.Test.YtjakoidjbcnhbaaGreatDoorRows
import GoSem.ClaimSeven
namespace Go.Proofs.YtjakoidjbcnhbaaGreatDoor
namespace Rows

/-- THE TIED CARD OF 'charterhouselaw19.MountNames'. -/
def mountNamesCard : Claim7 := { stood := { row := mountNamesRow, standIns := [], harness := (true, "ebcb8a4ea6e4491a55bd88203b0a0df23590c0893037aa03d1e80532e2550f47"), looks := true }, kinds := [], alts := [], laidByText := true, laidKinds := [.data, .pinned], laidTests := true, laidLooks := .later }
def MountNamesCardSaid : Prop := Claim7.holds Tryz.pinned (.plain (OpenSpec.ofChange mountNamesSpec)) mountNamesCard

/-- THE TIED CARD OF 'charterhouselaw24.DirNames'. -/
def dirNamesCard : Claim7 := { stood := { row := dirNamesRow, standIns := [], harness := (true, "ebcb8a4ea6e4491a55bd88203b0a0df23590c0893037aa03d1e80532e2550f47"), looks := true }, kinds := [], alts := [], laidByText := true, laidKinds := [.data, .pinned], laidTests := true, laidLooks := .later }
def DirNamesCardSaid : Prop := Claim7.holds Tryz.pinned (.plain (OpenSpec.ofChange dirNamesSpec)) dirNamesCard

/-- THE TIED CARD OF 'charterhouselaw18.LogNames'. -/
def logNamesCard : Claim7 := { stood := { row := logNamesRow, standIns := [], harness := (true, "ebcb8a4ea6e4491a55bd88203b0a0df23590c0893037aa03d1e80532e2550f47"), looks := true }, kinds := [], alts := [], laidByText := true, laidKinds := [.data, .pinned], laidTests := true, laidLooks := .later }
def LogNamesCardSaid : Prop := Claim7.holds Tryz.pinned (.plain (OpenSpec.ofChange logNamesSpec)) logNamesCard

/-- THE SECOND FORM's CARD OF 'charterhouselaw19.MountNames'. -/
def mountNamesUptoCard : Claim7 := { stood := { row := mountNamesUptoRow, standIns := [], harness := (true, "ebcb8a4ea6e4491a55bd88203b0a0df23590c0893037aa03d1e80532e2550f47"), looks := true }, kinds := [], alts := [], laidByText := true, laidKinds := [.data, .pinned], laidTests := true, laidLooks := .later }
def MountNamesUptoCardSaid : Prop := Claim7.holds Tryz.pinned (.plain (OpenSpec.upto mountNamesSpec)) mountNamesUptoCard

/-- THE SECOND FORM's CARD OF 'charterhouselaw24.DirNames'. -/
def dirNamesUptoCard : Claim7 := { stood := { row := dirNamesUptoRow, standIns := [], harness := (true, "ebcb8a4ea6e4491a55bd88203b0a0df23590c0893037aa03d1e80532e2550f47"), looks := true }, kinds := [], alts := [], laidByText := true, laidKinds := [.data, .pinned], laidTests := true, laidLooks := .later }
def DirNamesUptoCardSaid : Prop := Claim7.holds Tryz.pinned (.plain (OpenSpec.upto dirNamesSpec)) dirNamesUptoCard

/-- THE SECOND FORM's CARD OF 'charterhouselaw18.LogNames'. -/
def logNamesUptoCard : Claim7 := { stood := { row := logNamesUptoRow, standIns := [], harness := (true, "ebcb8a4ea6e4491a55bd88203b0a0df23590c0893037aa03d1e80532e2550f47"), looks := true }, kinds := [], alts := [], laidByText := true, laidKinds := [.data, .pinned], laidTests := true, laidLooks := .later }
def LogNamesUptoCardSaid : Prop := Claim7.holds Tryz.pinned (.plain (OpenSpec.upto logNamesSpec)) logNamesUptoCard
end Rows
end Go.Proofs.YtjakoidjbcnhbaaGreatDoor
