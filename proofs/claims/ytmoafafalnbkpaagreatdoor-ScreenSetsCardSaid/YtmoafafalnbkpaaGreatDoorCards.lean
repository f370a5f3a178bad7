/-
  DERIVED. GIVEN WITH THE SEED: THE CARDS: each row of YtmoafafalnbkpaaGreatDoorRows.lean that lists a variable, with what it lists TIED to the program's text (the seventh form; the later family's looks); each row that meets fmt, with fmt's text TOLD by the authors' own Lean function (tested against real Go, not proved from fmt's source: count such statements apart). THE CARD IS WHAT COUNTS. Prove the row's statement (the work); the ties are given (YtmoafafalnbkpaaGreatDoorTie.lean); close each card by the builder's one call (the guide's Derived/Test/ToyasCard.lean, 'card_holds'). Laid BY PROGRAM, IN A SANDBOX (cutbox-door.mjs). By AI agents, Wed Nov 11 2026. No macro, syntax, notation, axiom, sorry.
-/
import Derived.Test.YtmoafafalnbkpaaGreatDoorRows
import GoSem.ClaimSeven
namespace Go.Proofs.YtmoafafalnbkpaaGreatDoor
namespace Rows

/-- THE TIED CARD OF 'phosphorlaw17.ScreenSaves'. -/
def screenSavesCard : Claim7 := { stood := { row := screenSavesRow, standIns := [], harness := (true, "f8fe5f170a8b9cfa2058ded018171721c8770c1885bd75d484340a9369eacaa4"), looks := false }, kinds := [], alts := [], laidByText := true, laidKinds := [.data, .data, .data, .data, .pinned], laidTests := true, laidLooks := .later }
def ScreenSavesCardSaid : Prop := Claim7.holds Tryz.pinned (.plain (OpenSpec.ofChange screenSavesSpec)) screenSavesCard

/-- THE TIED CARD OF 'phosphorlaw17.ScreenWraps'. -/
def screenWrapsCard : Claim7 := { stood := { row := screenWrapsRow, standIns := [], harness := (true, "f8fe5f170a8b9cfa2058ded018171721c8770c1885bd75d484340a9369eacaa4"), looks := false }, kinds := [], alts := [], laidByText := true, laidKinds := [.data, .data, .data, .data, .pinned], laidTests := true, laidLooks := .later }
def ScreenWrapsCardSaid : Prop := Claim7.holds Tryz.pinned (.plain (OpenSpec.ofChange screenWrapsSpec)) screenWrapsCard

/-- THE TIED CARD OF 'phosphorlaw17.ScreenMoves'. -/
def screenMovesCard : Claim7 := { stood := { row := screenMovesRow, standIns := [], harness := (true, "f8fe5f170a8b9cfa2058ded018171721c8770c1885bd75d484340a9369eacaa4"), looks := false }, kinds := [], alts := [], laidByText := true, laidKinds := [.data, .data, .data, .data, .pinned], laidTests := true, laidLooks := .later }
def ScreenMovesCardSaid : Prop := Claim7.holds Tryz.pinned (.plain (OpenSpec.ofChange screenMovesSpec)) screenMovesCard

/-- THE TIED CARD OF 'phosphorlaw17.ScreenMargins'. -/
def screenMarginsCard : Claim7 := { stood := { row := screenMarginsRow, standIns := [], harness := (true, "f8fe5f170a8b9cfa2058ded018171721c8770c1885bd75d484340a9369eacaa4"), looks := false }, kinds := [], alts := [], laidByText := true, laidKinds := [.data, .data, .data, .data, .pinned], laidTests := true, laidLooks := .later }
def ScreenMarginsCardSaid : Prop := Claim7.holds Tryz.pinned (.plain (OpenSpec.ofChange screenMarginsSpec)) screenMarginsCard

/-- THE TIED CARD OF 'phosphorlaw17.ScreenSets'. -/
def screenSetsCard : Claim7 := { stood := { row := screenSetsRow, standIns := [], harness := (true, "f8fe5f170a8b9cfa2058ded018171721c8770c1885bd75d484340a9369eacaa4"), looks := false }, kinds := [], alts := [], laidByText := true, laidKinds := [.data, .data, .data, .data, .pinned], laidTests := true, laidLooks := .later }
def ScreenSetsCardSaid : Prop := Claim7.holds Tryz.pinned (.plain (OpenSpec.ofChange screenSetsSpec)) screenSetsCard

/-- THE TIED CARD OF 'phosphorlaw17.ScreenShapes'. -/
def screenShapesCard : Claim7 := { stood := { row := screenShapesRow, standIns := [], harness := (true, "f8fe5f170a8b9cfa2058ded018171721c8770c1885bd75d484340a9369eacaa4"), looks := false }, kinds := [], alts := [], laidByText := true, laidKinds := [.data, .data, .data, .data, .pinned], laidTests := true, laidLooks := .later }
def ScreenShapesCardSaid : Prop := Claim7.holds Tryz.pinned (.plain (OpenSpec.ofChange screenShapesSpec)) screenShapesCard

/-- THE TIED CARD OF 'phosphorlaw17.ScreenBounds'. -/
def screenBoundsCard : Claim7 := { stood := { row := screenBoundsRow, standIns := [], harness := (true, "f8fe5f170a8b9cfa2058ded018171721c8770c1885bd75d484340a9369eacaa4"), looks := false }, kinds := [], alts := [], laidByText := true, laidKinds := [.data, .data, .data, .data, .pinned], laidTests := true, laidLooks := .later }
def ScreenBoundsCardSaid : Prop := Claim7.holds Tryz.pinned (.plain (OpenSpec.ofChange screenBoundsSpec)) screenBoundsCard

/-- THE SECOND FORM's CARD OF 'phosphorlaw17.ScreenSaves'. -/
def screenSavesUptoCard : Claim7 := { stood := { row := screenSavesUptoRow, standIns := [], harness := (true, "f8fe5f170a8b9cfa2058ded018171721c8770c1885bd75d484340a9369eacaa4"), looks := false }, kinds := [], alts := [], laidByText := true, laidKinds := [.data, .data, .data, .data, .pinned], laidTests := true, laidLooks := .later }
def ScreenSavesUptoCardSaid : Prop := Claim7.holds Tryz.pinned (.plain (OpenSpec.upto screenSavesSpec)) screenSavesUptoCard

/-- THE SECOND FORM's CARD OF 'phosphorlaw17.ScreenWraps'. -/
def screenWrapsUptoCard : Claim7 := { stood := { row := screenWrapsUptoRow, standIns := [], harness := (true, "f8fe5f170a8b9cfa2058ded018171721c8770c1885bd75d484340a9369eacaa4"), looks := false }, kinds := [], alts := [], laidByText := true, laidKinds := [.data, .data, .data, .data, .pinned], laidTests := true, laidLooks := .later }
def ScreenWrapsUptoCardSaid : Prop := Claim7.holds Tryz.pinned (.plain (OpenSpec.upto screenWrapsSpec)) screenWrapsUptoCard

/-- THE SECOND FORM's CARD OF 'phosphorlaw17.ScreenMoves'. -/
def screenMovesUptoCard : Claim7 := { stood := { row := screenMovesUptoRow, standIns := [], harness := (true, "f8fe5f170a8b9cfa2058ded018171721c8770c1885bd75d484340a9369eacaa4"), looks := false }, kinds := [], alts := [], laidByText := true, laidKinds := [.data, .data, .data, .data, .pinned], laidTests := true, laidLooks := .later }
def ScreenMovesUptoCardSaid : Prop := Claim7.holds Tryz.pinned (.plain (OpenSpec.upto screenMovesSpec)) screenMovesUptoCard

/-- THE SECOND FORM's CARD OF 'phosphorlaw17.ScreenMargins'. -/
def screenMarginsUptoCard : Claim7 := { stood := { row := screenMarginsUptoRow, standIns := [], harness := (true, "f8fe5f170a8b9cfa2058ded018171721c8770c1885bd75d484340a9369eacaa4"), looks := false }, kinds := [], alts := [], laidByText := true, laidKinds := [.data, .data, .data, .data, .pinned], laidTests := true, laidLooks := .later }
def ScreenMarginsUptoCardSaid : Prop := Claim7.holds Tryz.pinned (.plain (OpenSpec.upto screenMarginsSpec)) screenMarginsUptoCard

/-- THE SECOND FORM's CARD OF 'phosphorlaw17.ScreenSets'. -/
def screenSetsUptoCard : Claim7 := { stood := { row := screenSetsUptoRow, standIns := [], harness := (true, "f8fe5f170a8b9cfa2058ded018171721c8770c1885bd75d484340a9369eacaa4"), looks := false }, kinds := [], alts := [], laidByText := true, laidKinds := [.data, .data, .data, .data, .pinned], laidTests := true, laidLooks := .later }
def ScreenSetsUptoCardSaid : Prop := Claim7.holds Tryz.pinned (.plain (OpenSpec.upto screenSetsSpec)) screenSetsUptoCard

/-- THE SECOND FORM's CARD OF 'phosphorlaw17.ScreenShapes'. -/
def screenShapesUptoCard : Claim7 := { stood := { row := screenShapesUptoRow, standIns := [], harness := (true, "f8fe5f170a8b9cfa2058ded018171721c8770c1885bd75d484340a9369eacaa4"), looks := false }, kinds := [], alts := [], laidByText := true, laidKinds := [.data, .data, .data, .data, .pinned], laidTests := true, laidLooks := .later }
def ScreenShapesUptoCardSaid : Prop := Claim7.holds Tryz.pinned (.plain (OpenSpec.upto screenShapesSpec)) screenShapesUptoCard

/-- THE SECOND FORM's CARD OF 'phosphorlaw17.ScreenBounds'. -/
def screenBoundsUptoCard : Claim7 := { stood := { row := screenBoundsUptoRow, standIns := [], harness := (true, "f8fe5f170a8b9cfa2058ded018171721c8770c1885bd75d484340a9369eacaa4"), looks := false }, kinds := [], alts := [], laidByText := true, laidKinds := [.data, .data, .data, .data, .pinned], laidTests := true, laidLooks := .later }
def ScreenBoundsUptoCardSaid : Prop := Claim7.holds Tryz.pinned (.plain (OpenSpec.upto screenBoundsSpec)) screenBoundsUptoCard
end Rows
end Go.Proofs.YtmoafafalnbkpaaGreatDoor
