/-
  DERIVED. GIVEN WITH THE SEED: THE CARDS: each row of YtokfefnmpjohpaaGreatDoorRows.lean that lists a variable, with what it lists TIED to the program's text (the seventh form; the later family's looks); each row that meets fmt, with fmt's text TOLD by the authors' own Lean function (tested against real Go, not proved from fmt's source: count such statements apart). THE CARD IS WHAT COUNTS. Prove the row's statement (the work); the ties are given (YtokfefnmpjohpaaGreatDoorTie.lean); close each card by the builder's one call (the guide's Derived/Test/ToyasCard.lean, 'card_holds'). Laid BY PROGRAM, IN A SANDBOX (cutbox-door.mjs). By AI agents, Wed Nov 11 2026. No macro, syntax, notation, axiom, sorry.
-/
import Derived.Test.YtokfefnmpjohpaaGreatDoorRows
import GoSem.ClaimSeven
namespace Go.Proofs.YtokfefnmpjohpaaGreatDoor
namespace Rows

/-- THE TIED CARD OF 'phosphortop.TopQuota'. -/
def topQuotaCard : Claim7 := { stood := { row := topQuotaRow, standIns := [], harness := (true, "e1661810f03b8733a8ec06d9f366c2c837c5aa57fae0c4fa922c3ebcb800c608"), looks := true }, kinds := [], alts := [], laidByText := true, laidKinds := [.data, .data, .data, .data, .pinned], laidTests := true, laidLooks := .later }
def TopQuotaCardSaid : Prop := Claim7.holds Tryz.pinned (.plain (OpenSpec.ofChange topQuotaSpec)) topQuotaCard

/-- THE TIED CARD OF 'phosphorlaw25.TermReplies'. -/
def termRepliesCard : Claim7 := { stood := { row := termRepliesRow, standIns := [], harness := (true, "e1661810f03b8733a8ec06d9f366c2c837c5aa57fae0c4fa922c3ebcb800c608"), looks := true }, kinds := [], alts := [], laidByText := true, laidKinds := [.data, .data, .data, .data, .pinned], laidTests := true, laidLooks := .later }
def TermRepliesCardSaid : Prop := Claim7.holds Tryz.pinned (.plain (OpenSpec.ofChange termRepliesSpec)) termRepliesCard

/-- THE SECOND FORM's CARD OF 'phosphortop.TopQuota'. -/
def topQuotaUptoCard : Claim7 := { stood := { row := topQuotaUptoRow, standIns := [], harness := (true, "e1661810f03b8733a8ec06d9f366c2c837c5aa57fae0c4fa922c3ebcb800c608"), looks := true }, kinds := [], alts := [], laidByText := true, laidKinds := [.data, .data, .data, .data, .pinned], laidTests := true, laidLooks := .later }
def TopQuotaUptoCardSaid : Prop := Claim7.holds Tryz.pinned (.plain (OpenSpec.upto topQuotaSpec)) topQuotaUptoCard

/-- THE SECOND FORM's CARD OF 'phosphorlaw25.TermReplies'. -/
def termRepliesUptoCard : Claim7 := { stood := { row := termRepliesUptoRow, standIns := [], harness := (true, "e1661810f03b8733a8ec06d9f366c2c837c5aa57fae0c4fa922c3ebcb800c608"), looks := true }, kinds := [], alts := [], laidByText := true, laidKinds := [.data, .data, .data, .data, .pinned], laidTests := true, laidLooks := .later }
def TermRepliesUptoCardSaid : Prop := Claim7.holds Tryz.pinned (.plain (OpenSpec.upto termRepliesSpec)) termRepliesUptoCard
end Rows
end Go.Proofs.YtokfefnmpjohpaaGreatDoor
