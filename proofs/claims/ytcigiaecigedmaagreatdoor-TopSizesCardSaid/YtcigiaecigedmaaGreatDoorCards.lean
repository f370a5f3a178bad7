/-
  DERIVED. GIVEN WITH THE SEED: THE CARDS: each row of YtcigiaecigedmaaGreatDoorRows.lean that lists a variable, with what it lists TIED to the program's text (the seventh form; the later family's looks); each row that meets fmt, with fmt's text TOLD by the authors' own Lean function (tested against real Go, not proved from fmt's source: count such statements apart). THE CARD IS WHAT COUNTS. Prove the row's statement (the work); the ties are given (YtcigiaecigedmaaGreatDoorTie.lean); close each card by the builder's one call (the guide's Derived/Test/ToyasCard.lean, 'card_holds'). Laid BY PROGRAM, IN A SANDBOX (cutbox-door.mjs). By AI agents, Wed Nov 11 2026. No macro, syntax, notation, axiom, sorry.
-/
import Derived.Test.YtcigiaecigedmaaGreatDoorRows
import GoSem.ClaimSeven
namespace Go.Proofs.YtcigiaecigedmaaGreatDoor
namespace Rows

/-- THE TIED CARD OF 'phosphortop.TopQuota'. -/
def topQuotaCard : Claim7 := { stood := { row := topQuotaRow, standIns := [], harness := (true, "bb521231f4e427300a3b6d4343bfc2c570d2d72440a9ad0c217cbd9b5b242316"), looks := true }, kinds := [], alts := [], laidByText := true, laidKinds := [.data, .data, .data, .data, .pinned], laidTests := true, laidLooks := .later }
def TopQuotaCardSaid : Prop := Claim7.holds Tryz.pinned (.plain (OpenSpec.ofChange topQuotaSpec)) topQuotaCard

/-- THE TIED CARD OF 'phosphortop.TopSizes'. -/
def topSizesCard : Claim7 := { stood := { row := topSizesRow, standIns := [], harness := (true, "bb521231f4e427300a3b6d4343bfc2c570d2d72440a9ad0c217cbd9b5b242316"), looks := true }, kinds := [], alts := [], laidByText := true, laidKinds := [.data, .data, .data, .data, .pinned], laidTests := true, laidLooks := .later }
def TopSizesCardSaid : Prop := Claim7.holds Tryz.pinned (.plain (OpenSpec.ofChange topSizesSpec)) topSizesCard

/-- THE TIED CARD OF 'phosphorlaw25.TermReplies'. -/
def termRepliesCard : Claim7 := { stood := { row := termRepliesRow, standIns := [], harness := (true, "bb521231f4e427300a3b6d4343bfc2c570d2d72440a9ad0c217cbd9b5b242316"), looks := true }, kinds := [], alts := [], laidByText := true, laidKinds := [.data, .data, .data, .data, .pinned], laidTests := true, laidLooks := .later }
def TermRepliesCardSaid : Prop := Claim7.holds Tryz.pinned (.plain (OpenSpec.ofChange termRepliesSpec)) termRepliesCard

/-- THE SECOND FORM's CARD OF 'phosphortop.TopQuota'. -/
def topQuotaUptoCard : Claim7 := { stood := { row := topQuotaUptoRow, standIns := [], harness := (true, "bb521231f4e427300a3b6d4343bfc2c570d2d72440a9ad0c217cbd9b5b242316"), looks := true }, kinds := [], alts := [], laidByText := true, laidKinds := [.data, .data, .data, .data, .pinned], laidTests := true, laidLooks := .later }
def TopQuotaUptoCardSaid : Prop := Claim7.holds Tryz.pinned (.plain (OpenSpec.upto topQuotaSpec)) topQuotaUptoCard

/-- THE SECOND FORM's CARD OF 'phosphortop.TopSizes'. -/
def topSizesUptoCard : Claim7 := { stood := { row := topSizesUptoRow, standIns := [], harness := (true, "bb521231f4e427300a3b6d4343bfc2c570d2d72440a9ad0c217cbd9b5b242316"), looks := true }, kinds := [], alts := [], laidByText := true, laidKinds := [.data, .data, .data, .data, .pinned], laidTests := true, laidLooks := .later }
def TopSizesUptoCardSaid : Prop := Claim7.holds Tryz.pinned (.plain (OpenSpec.upto topSizesSpec)) topSizesUptoCard

/-- THE SECOND FORM's CARD OF 'phosphorlaw25.TermReplies'. -/
def termRepliesUptoCard : Claim7 := { stood := { row := termRepliesUptoRow, standIns := [], harness := (true, "bb521231f4e427300a3b6d4343bfc2c570d2d72440a9ad0c217cbd9b5b242316"), looks := true }, kinds := [], alts := [], laidByText := true, laidKinds := [.data, .data, .data, .data, .pinned], laidTests := true, laidLooks := .later }
def TermRepliesUptoCardSaid : Prop := Claim7.holds Tryz.pinned (.plain (OpenSpec.upto termRepliesSpec)) termRepliesUptoCard
end Rows
end Go.Proofs.YtcigiaecigedmaaGreatDoor
