/-
  DERIVED. GIVEN WITH THE SEED: THE CARDS: each row of YtjhgepnpnapnoaaGreatDoorRows.lean that lists a variable, with what it lists TIED to the program's text (the seventh form; the later family's looks); each row that meets fmt, with fmt's text TOLD by the authors' own Lean function (tested against real Go, not proved from fmt's source: count such statements apart). THE CARD IS WHAT COUNTS. Prove the row's statement (the work); the ties are given (YtjhgepnpnapnoaaGreatDoorTie.lean); close each card by the builder's one call (the guide's Derived/Test/ToyasCard.lean, 'card_holds'). Laid BY PROGRAM, IN A SANDBOX (cutbox-door.mjs). By AI agents, Wed Nov 11 2026. No macro, syntax, notation, axiom, sorry.
-/
import Derived.Test.YtjhgepnpnapnoaaGreatDoorRows
import GoSem.ClaimSeven
namespace Go.Proofs.YtjhgepnpnapnoaaGreatDoor
namespace Rows

/-- THE TIED CARD OF 'phosphortop.TopMixed'. -/
def topMixedCard : Claim7 := { stood := { row := topMixedRow, standIns := [], harness := (true, "eef4bb749417f270e3c166be60ad86df8a8d3ffb4beea9ce057ef515ada1d5bd"), looks := true }, kinds := [], alts := [], laidByText := true, laidKinds := [.data, .data, .data, .data, .pinned], laidTests := true, laidLooks := .later }
def TopMixedCardSaid : Prop := Claim7.holds Tryz.pinned (.plain (OpenSpec.ofChange topMixedSpec)) topMixedCard

/-- THE SECOND FORM's CARD OF 'phosphortop.TopMixed'. -/
def topMixedUptoCard : Claim7 := { stood := { row := topMixedUptoRow, standIns := [], harness := (true, "eef4bb749417f270e3c166be60ad86df8a8d3ffb4beea9ce057ef515ada1d5bd"), looks := true }, kinds := [], alts := [], laidByText := true, laidKinds := [.data, .data, .data, .data, .pinned], laidTests := true, laidLooks := .later }
def TopMixedUptoCardSaid : Prop := Claim7.holds Tryz.pinned (.plain (OpenSpec.upto topMixedSpec)) topMixedUptoCard
end Rows
end Go.Proofs.YtjhgepnpnapnoaaGreatDoor
