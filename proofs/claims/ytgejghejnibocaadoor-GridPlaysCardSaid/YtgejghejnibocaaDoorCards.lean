/-
  DERIVED. GIVEN WITH THE SEED: THE CARDS: each row of YtgejghejnibocaaDoorRows.lean that lists a variable, with what it lists TIED to the program's text (the seventh form; the later family's looks); each row that meets fmt, with fmt's text TOLD by the authors' own Lean function (tested against real Go, not proved from fmt's source: count such statements apart). THE CARD IS WHAT COUNTS. Prove the row's statement (the work); the ties are given (YtgejghejnibocaaDoorTie.lean); close each card by the builder's one call (the guide's Derived/Test/ToyasCard.lean, 'card_holds'). Laid BY PROGRAM, IN A SANDBOX (cutbox-door.mjs). By AI agents, Wed Nov 11 2026. No macro, syntax, notation, axiom, sorry.
-/
import Derived.Test.YtgejghejnibocaaDoorRows
import GoSem.ClaimSeven
namespace Go.Proofs.YtgejghejnibocaaDoor
namespace Rows

/-- THE TIED CARD OF 'phosphorlaw13.LineNew'. -/
def lineNewCard : Claim7 := { stood := { row := lineNewRow, standIns := [], harness := (true, "a8579694a83837719a4c4a439a76608a76c0fff2ce49706e806679c2bf0b266e"), looks := false }, kinds := [], alts := [], laidByText := true, laidKinds := [.data, .pinned], laidTests := true, laidLooks := .later }
def LineNewCardSaid : Prop := Claim7.holds Tryd.pinned (.plain (OpenSpec.ofChange lineNewSpec)) lineNewCard

/-- THE TIED CARD OF 'phosphorlaw13.LineTexts'. -/
def lineTextsCard : Claim7 := { stood := { row := lineTextsRow, standIns := [], harness := (true, "a8579694a83837719a4c4a439a76608a76c0fff2ce49706e806679c2bf0b266e"), looks := false }, kinds := [], alts := [], laidByText := true, laidKinds := [.data, .pinned], laidTests := true, laidLooks := .later }
def LineTextsCardSaid : Prop := Claim7.holds Tryd.pinned (.plain (OpenSpec.ofChange lineTextsSpec)) lineTextsCard

/-- THE TIED CARD OF 'phosphorlaw13.LineMaps'. -/
def lineMapsCard : Claim7 := { stood := { row := lineMapsRow, standIns := [], harness := (true, "a8579694a83837719a4c4a439a76608a76c0fff2ce49706e806679c2bf0b266e"), looks := false }, kinds := [], alts := [], laidByText := true, laidKinds := [.data, .pinned], laidTests := true, laidLooks := .later }
def LineMapsCardSaid : Prop := Claim7.holds Tryd.pinned (.plain (OpenSpec.ofChange lineMapsSpec)) lineMapsCard

/-- THE TIED CARD OF 'phosphorlaw13.LineShifts'. -/
def lineShiftsCard : Claim7 := { stood := { row := lineShiftsRow, standIns := [], harness := (true, "a8579694a83837719a4c4a439a76608a76c0fff2ce49706e806679c2bf0b266e"), looks := false }, kinds := [], alts := [], laidByText := true, laidKinds := [.data, .pinned], laidTests := true, laidLooks := .later }
def LineShiftsCardSaid : Prop := Claim7.holds Tryd.pinned (.plain (OpenSpec.ofChange lineShiftsSpec)) lineShiftsCard

/-- THE TIED CARD OF 'phosphorlaw13.LinePlays'. -/
def linePlaysCard : Claim7 := { stood := { row := linePlaysRow, standIns := [], harness := (true, "a8579694a83837719a4c4a439a76608a76c0fff2ce49706e806679c2bf0b266e"), looks := false }, kinds := [], alts := [], laidByText := true, laidKinds := [.data, .pinned], laidTests := true, laidLooks := .later }
def LinePlaysCardSaid : Prop := Claim7.holds Tryd.pinned (.plain (OpenSpec.ofChange linePlaysSpec)) linePlaysCard

/-- THE TIED CARD OF 'phosphorlaw16.GridNumbers'. -/
def gridNumbersCard : Claim7 := { stood := { row := gridNumbersRow, standIns := [], harness := (true, "a8579694a83837719a4c4a439a76608a76c0fff2ce49706e806679c2bf0b266e"), looks := false }, kinds := [], alts := [], laidByText := true, laidKinds := [.data, .pinned], laidTests := true, laidLooks := .later }
def GridNumbersCardSaid : Prop := Claim7.holds Tryd.pinned (.plain (OpenSpec.ofChange gridNumbersSpec)) gridNumbersCard

/-- THE TIED CARD OF 'phosphorlaw16.GridScrolls'. -/
def gridScrollsCard : Claim7 := { stood := { row := gridScrollsRow, standIns := [], harness := (true, "a8579694a83837719a4c4a439a76608a76c0fff2ce49706e806679c2bf0b266e"), looks := false }, kinds := [], alts := [], laidByText := true, laidKinds := [.data, .pinned], laidTests := true, laidLooks := .later }
def GridScrollsCardSaid : Prop := Claim7.holds Tryd.pinned (.plain (OpenSpec.ofChange gridScrollsSpec)) gridScrollsCard

/-- THE TIED CARD OF 'phosphorlaw16.GridShrinks'. -/
def gridShrinksCard : Claim7 := { stood := { row := gridShrinksRow, standIns := [], harness := (true, "a8579694a83837719a4c4a439a76608a76c0fff2ce49706e806679c2bf0b266e"), looks := false }, kinds := [], alts := [], laidByText := true, laidKinds := [.data, .pinned], laidTests := true, laidLooks := .later }
def GridShrinksCardSaid : Prop := Claim7.holds Tryd.pinned (.plain (OpenSpec.ofChange gridShrinksSpec)) gridShrinksCard

/-- THE TIED CARD OF 'phosphorlaw16.GridResizes'. -/
def gridResizesCard : Claim7 := { stood := { row := gridResizesRow, standIns := [], harness := (true, "a8579694a83837719a4c4a439a76608a76c0fff2ce49706e806679c2bf0b266e"), looks := false }, kinds := [], alts := [], laidByText := true, laidKinds := [.data, .pinned], laidTests := true, laidLooks := .later }
def GridResizesCardSaid : Prop := Claim7.holds Tryd.pinned (.plain (OpenSpec.ofChange gridResizesSpec)) gridResizesCard

/-- THE TIED CARD OF 'phosphorlaw16.GridPlays'. -/
def gridPlaysCard : Claim7 := { stood := { row := gridPlaysRow, standIns := [], harness := (true, "a8579694a83837719a4c4a439a76608a76c0fff2ce49706e806679c2bf0b266e"), looks := false }, kinds := [], alts := [], laidByText := true, laidKinds := [.data, .pinned], laidTests := true, laidLooks := .later }
def GridPlaysCardSaid : Prop := Claim7.holds Tryd.pinned (.plain (OpenSpec.ofChange gridPlaysSpec)) gridPlaysCard

/-- THE SECOND FORM's CARD OF 'phosphorlaw13.LineNew'. -/
def lineNewUptoCard : Claim7 := { stood := { row := lineNewUptoRow, standIns := [], harness := (true, "a8579694a83837719a4c4a439a76608a76c0fff2ce49706e806679c2bf0b266e"), looks := false }, kinds := [], alts := [], laidByText := true, laidKinds := [.data, .pinned], laidTests := true, laidLooks := .later }
def LineNewUptoCardSaid : Prop := Claim7.holds Tryd.pinned (.plain (OpenSpec.upto lineNewSpec)) lineNewUptoCard

/-- THE SECOND FORM's CARD OF 'phosphorlaw13.LineTexts'. -/
def lineTextsUptoCard : Claim7 := { stood := { row := lineTextsUptoRow, standIns := [], harness := (true, "a8579694a83837719a4c4a439a76608a76c0fff2ce49706e806679c2bf0b266e"), looks := false }, kinds := [], alts := [], laidByText := true, laidKinds := [.data, .pinned], laidTests := true, laidLooks := .later }
def LineTextsUptoCardSaid : Prop := Claim7.holds Tryd.pinned (.plain (OpenSpec.upto lineTextsSpec)) lineTextsUptoCard

/-- THE SECOND FORM's CARD OF 'phosphorlaw13.LineMaps'. -/
def lineMapsUptoCard : Claim7 := { stood := { row := lineMapsUptoRow, standIns := [], harness := (true, "a8579694a83837719a4c4a439a76608a76c0fff2ce49706e806679c2bf0b266e"), looks := false }, kinds := [], alts := [], laidByText := true, laidKinds := [.data, .pinned], laidTests := true, laidLooks := .later }
def LineMapsUptoCardSaid : Prop := Claim7.holds Tryd.pinned (.plain (OpenSpec.upto lineMapsSpec)) lineMapsUptoCard

/-- THE SECOND FORM's CARD OF 'phosphorlaw13.LineShifts'. -/
def lineShiftsUptoCard : Claim7 := { stood := { row := lineShiftsUptoRow, standIns := [], harness := (true, "a8579694a83837719a4c4a439a76608a76c0fff2ce49706e806679c2bf0b266e"), looks := false }, kinds := [], alts := [], laidByText := true, laidKinds := [.data, .pinned], laidTests := true, laidLooks := .later }
def LineShiftsUptoCardSaid : Prop := Claim7.holds Tryd.pinned (.plain (OpenSpec.upto lineShiftsSpec)) lineShiftsUptoCard

/-- THE SECOND FORM's CARD OF 'phosphorlaw13.LinePlays'. -/
def linePlaysUptoCard : Claim7 := { stood := { row := linePlaysUptoRow, standIns := [], harness := (true, "a8579694a83837719a4c4a439a76608a76c0fff2ce49706e806679c2bf0b266e"), looks := false }, kinds := [], alts := [], laidByText := true, laidKinds := [.data, .pinned], laidTests := true, laidLooks := .later }
def LinePlaysUptoCardSaid : Prop := Claim7.holds Tryd.pinned (.plain (OpenSpec.upto linePlaysSpec)) linePlaysUptoCard

/-- THE SECOND FORM's CARD OF 'phosphorlaw16.GridNumbers'. -/
def gridNumbersUptoCard : Claim7 := { stood := { row := gridNumbersUptoRow, standIns := [], harness := (true, "a8579694a83837719a4c4a439a76608a76c0fff2ce49706e806679c2bf0b266e"), looks := false }, kinds := [], alts := [], laidByText := true, laidKinds := [.data, .pinned], laidTests := true, laidLooks := .later }
def GridNumbersUptoCardSaid : Prop := Claim7.holds Tryd.pinned (.plain (OpenSpec.upto gridNumbersSpec)) gridNumbersUptoCard

/-- THE SECOND FORM's CARD OF 'phosphorlaw16.GridScrolls'. -/
def gridScrollsUptoCard : Claim7 := { stood := { row := gridScrollsUptoRow, standIns := [], harness := (true, "a8579694a83837719a4c4a439a76608a76c0fff2ce49706e806679c2bf0b266e"), looks := false }, kinds := [], alts := [], laidByText := true, laidKinds := [.data, .pinned], laidTests := true, laidLooks := .later }
def GridScrollsUptoCardSaid : Prop := Claim7.holds Tryd.pinned (.plain (OpenSpec.upto gridScrollsSpec)) gridScrollsUptoCard

/-- THE SECOND FORM's CARD OF 'phosphorlaw16.GridShrinks'. -/
def gridShrinksUptoCard : Claim7 := { stood := { row := gridShrinksUptoRow, standIns := [], harness := (true, "a8579694a83837719a4c4a439a76608a76c0fff2ce49706e806679c2bf0b266e"), looks := false }, kinds := [], alts := [], laidByText := true, laidKinds := [.data, .pinned], laidTests := true, laidLooks := .later }
def GridShrinksUptoCardSaid : Prop := Claim7.holds Tryd.pinned (.plain (OpenSpec.upto gridShrinksSpec)) gridShrinksUptoCard

/-- THE SECOND FORM's CARD OF 'phosphorlaw16.GridResizes'. -/
def gridResizesUptoCard : Claim7 := { stood := { row := gridResizesUptoRow, standIns := [], harness := (true, "a8579694a83837719a4c4a439a76608a76c0fff2ce49706e806679c2bf0b266e"), looks := false }, kinds := [], alts := [], laidByText := true, laidKinds := [.data, .pinned], laidTests := true, laidLooks := .later }
def GridResizesUptoCardSaid : Prop := Claim7.holds Tryd.pinned (.plain (OpenSpec.upto gridResizesSpec)) gridResizesUptoCard

/-- THE SECOND FORM's CARD OF 'phosphorlaw16.GridPlays'. -/
def gridPlaysUptoCard : Claim7 := { stood := { row := gridPlaysUptoRow, standIns := [], harness := (true, "a8579694a83837719a4c4a439a76608a76c0fff2ce49706e806679c2bf0b266e"), looks := false }, kinds := [], alts := [], laidByText := true, laidKinds := [.data, .pinned], laidTests := true, laidLooks := .later }
def GridPlaysUptoCardSaid : Prop := Claim7.holds Tryd.pinned (.plain (OpenSpec.upto gridPlaysSpec)) gridPlaysUptoCard
end Rows
end Go.Proofs.YtgejghejnibocaaDoor
