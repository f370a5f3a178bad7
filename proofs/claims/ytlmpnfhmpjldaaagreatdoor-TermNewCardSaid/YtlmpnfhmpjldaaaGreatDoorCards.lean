/-
  DERIVED. GIVEN WITH THE SEED: THE CARDS: each row of YtlmpnfhmpjldaaaGreatDoorRows.lean that lists a variable, with what it lists TIED to the program's text (the seventh form; the later family's looks); each row that meets fmt, with fmt's text TOLD by the authors' own Lean function (tested against real Go, not proved from fmt's source: count such statements apart). THE CARD IS WHAT COUNTS. Prove the row's statement (the work); the ties are given (YtlmpnfhmpjldaaaGreatDoorTie.lean); close each card by the builder's one call (the guide's Derived/Test/ToyasCard.lean, 'card_holds'). Laid BY PROGRAM, IN A SANDBOX (cutbox-door.mjs). By AI agents, Wed Nov 11 2026. No macro, syntax, notation, axiom, sorry.
-/
import Derived.Test.YtlmpnfhmpjldaaaGreatDoorRows
import GoSem.ClaimSeven
namespace Go.Proofs.YtlmpnfhmpjldaaaGreatDoor
namespace Rows

/-- THE TIED CARD OF 'phosphorlaw25.TermNew'. -/
def termNewCard : Claim7 := { stood := { row := termNewRow, standIns := [], harness := (true, "2ef1872af21a5b0e01c8b7f1a9b71e2fce09f376d3d58e48fd635fc081aba85f"), looks := true }, kinds := [], alts := [], laidByText := true, laidKinds := [.data, .data, .data, .pinned, .data], laidTests := true, laidLooks := .later }
def TermNewCardSaid : Prop := Claim7.holds Tryz.pinned (.plain (OpenSpec.ofChange termNewSpec)) termNewCard

/-- THE SECOND FORM's CARD OF 'phosphorlaw25.TermNew'. -/
def termNewUptoCard : Claim7 := { stood := { row := termNewUptoRow, standIns := [], harness := (true, "2ef1872af21a5b0e01c8b7f1a9b71e2fce09f376d3d58e48fd635fc081aba85f"), looks := true }, kinds := [], alts := [], laidByText := true, laidKinds := [.data, .data, .data, .pinned, .data], laidTests := true, laidLooks := .later }
def TermNewUptoCardSaid : Prop := Claim7.holds Tryz.pinned (.plain (OpenSpec.upto termNewSpec)) termNewUptoCard
end Rows
end Go.Proofs.YtlmpnfhmpjldaaaGreatDoor
