/-
  DERIVED. GIVEN WITH THE SEED: THE CARDS: each row of YtedcpbkcamckoaaGreatDoorRows.lean that lists a variable, with what it lists TIED to the program's text (the seventh form; the later family's looks); each row that meets fmt, with fmt's text TOLD by the authors' own Lean function (tested against real Go, not proved from fmt's source: count such statements apart). THE CARD IS WHAT COUNTS. Prove the row's statement (the work); the ties are given (YtedcpbkcamckoaaGreatDoorTie.lean); close each card by the builder's one call (the guide's Derived/Test/ToyasCard.lean, 'card_holds'). Laid BY PROGRAM, IN A SANDBOX (cutbox-door.mjs). By AI agents, Wed Nov 11 2026. No macro, syntax, notation, axiom, sorry.
-/
import Derived.Test.YtedcpbkcamckoaaGreatDoorRows
import GoSem.ClaimSeven
namespace Go.Proofs.YtedcpbkcamckoaaGreatDoor
namespace Rows

/-- THE TIED CARD OF 'phosphorlaw23.KittyCells'. -/
def kittyCellsCard : Claim7 := { stood := { row := kittyCellsRow, standIns := [], harness := (true, "fa1bc12d9d552c0af6ea24f8149c90922ec70d7c3696316cd74ec4dfe27e28d5"), looks := true }, kinds := [], alts := [], laidByText := true, laidKinds := [.data, .data, .data, .data, .pinned], laidTests := true, laidLooks := .later }
def KittyCellsCardSaid : Prop := Claim7.holds Tryz.pinned (.plain (OpenSpec.ofChange kittyCellsSpec)) kittyCellsCard

/-- THE TIED CARD OF 'phosphorlaw23.KittyDeletes'. -/
def kittyDeletesCard : Claim7 := { stood := { row := kittyDeletesRow, standIns := [], harness := (true, "fa1bc12d9d552c0af6ea24f8149c90922ec70d7c3696316cd74ec4dfe27e28d5"), looks := true }, kinds := [], alts := [], laidByText := true, laidKinds := [.data, .data, .data, .data, .pinned], laidTests := true, laidLooks := .later }
def KittyDeletesCardSaid : Prop := Claim7.holds Tryz.pinned (.plain (OpenSpec.ofChange kittyDeletesSpec)) kittyDeletesCard

/-- THE TIED CARD OF 'phosphorlaw23.KittyChunks'. -/
def kittyChunksCard : Claim7 := { stood := { row := kittyChunksRow, standIns := [], harness := (true, "fa1bc12d9d552c0af6ea24f8149c90922ec70d7c3696316cd74ec4dfe27e28d5"), looks := true }, kinds := [], alts := [], laidByText := true, laidKinds := [.data, .data, .data, .data, .pinned], laidTests := true, laidLooks := .later }
def KittyChunksCardSaid : Prop := Claim7.holds Tryz.pinned (.plain (OpenSpec.ofChange kittyChunksSpec)) kittyChunksCard

/-- THE TIED CARD OF 'phosphorlaw23.KittyPlaces'. -/
def kittyPlacesCard : Claim7 := { stood := { row := kittyPlacesRow, standIns := [], harness := (true, "fa1bc12d9d552c0af6ea24f8149c90922ec70d7c3696316cd74ec4dfe27e28d5"), looks := true }, kinds := [], alts := [], laidByText := true, laidKinds := [.data, .data, .data, .data, .pinned], laidTests := true, laidLooks := .later }
def KittyPlacesCardSaid : Prop := Claim7.holds Tryz.pinned (.plain (OpenSpec.ofChange kittyPlacesSpec)) kittyPlacesCard

/-- THE SECOND FORM's CARD OF 'phosphorlaw23.KittyCells'. -/
def kittyCellsUptoCard : Claim7 := { stood := { row := kittyCellsUptoRow, standIns := [], harness := (true, "fa1bc12d9d552c0af6ea24f8149c90922ec70d7c3696316cd74ec4dfe27e28d5"), looks := true }, kinds := [], alts := [], laidByText := true, laidKinds := [.data, .data, .data, .data, .pinned], laidTests := true, laidLooks := .later }
def KittyCellsUptoCardSaid : Prop := Claim7.holds Tryz.pinned (.plain (OpenSpec.upto kittyCellsSpec)) kittyCellsUptoCard

/-- THE SECOND FORM's CARD OF 'phosphorlaw23.KittyDeletes'. -/
def kittyDeletesUptoCard : Claim7 := { stood := { row := kittyDeletesUptoRow, standIns := [], harness := (true, "fa1bc12d9d552c0af6ea24f8149c90922ec70d7c3696316cd74ec4dfe27e28d5"), looks := true }, kinds := [], alts := [], laidByText := true, laidKinds := [.data, .data, .data, .data, .pinned], laidTests := true, laidLooks := .later }
def KittyDeletesUptoCardSaid : Prop := Claim7.holds Tryz.pinned (.plain (OpenSpec.upto kittyDeletesSpec)) kittyDeletesUptoCard

/-- THE SECOND FORM's CARD OF 'phosphorlaw23.KittyChunks'. -/
def kittyChunksUptoCard : Claim7 := { stood := { row := kittyChunksUptoRow, standIns := [], harness := (true, "fa1bc12d9d552c0af6ea24f8149c90922ec70d7c3696316cd74ec4dfe27e28d5"), looks := true }, kinds := [], alts := [], laidByText := true, laidKinds := [.data, .data, .data, .data, .pinned], laidTests := true, laidLooks := .later }
def KittyChunksUptoCardSaid : Prop := Claim7.holds Tryz.pinned (.plain (OpenSpec.upto kittyChunksSpec)) kittyChunksUptoCard

/-- THE SECOND FORM's CARD OF 'phosphorlaw23.KittyPlaces'. -/
def kittyPlacesUptoCard : Claim7 := { stood := { row := kittyPlacesUptoRow, standIns := [], harness := (true, "fa1bc12d9d552c0af6ea24f8149c90922ec70d7c3696316cd74ec4dfe27e28d5"), looks := true }, kinds := [], alts := [], laidByText := true, laidKinds := [.data, .data, .data, .data, .pinned], laidTests := true, laidLooks := .later }
def KittyPlacesUptoCardSaid : Prop := Claim7.holds Tryz.pinned (.plain (OpenSpec.upto kittyPlacesSpec)) kittyPlacesUptoCard
end Rows
end Go.Proofs.YtedcpbkcamckoaaGreatDoor
