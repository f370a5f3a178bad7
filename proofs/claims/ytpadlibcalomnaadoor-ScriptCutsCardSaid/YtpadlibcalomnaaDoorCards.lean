/-
  DERIVED. GIVEN WITH THE SEED: THE CARDS: each row of YtpadlibcalomnaaDoorRows.lean that lists a variable, with what it lists TIED to the program's text (the seventh form; the later family's looks); each row that meets fmt, with fmt's text TOLD by the authors' own Lean function (tested against real Go, not proved from fmt's source: count such statements apart). THE CARD IS WHAT COUNTS. Prove the row's statement (the work); the ties are given (YtpadlibcalomnaaDoorTie.lean); close each card by the builder's one call (the guide's Derived/Test/ToyasCard.lean, 'card_holds'). Laid BY PROGRAM, IN A SANDBOX (cutbox-door.mjs). By AI agents, Wed Nov 11 2026. No macro, syntax, notation, axiom, sorry.
-/
import Derived.Test.YtpadlibcalomnaaDoorRows
import GoSem.ClaimSeven
namespace Go.Proofs.YtpadlibcalomnaaDoor
namespace Rows

/-- THE TIED CARD OF 'phosphorlaw19.KeysReplies'. -/
def keysRepliesCard : Claim7 := { stood := { row := keysRepliesRow, standIns := [], harness := (true, "4ad3f8e8913a5981ceb1697f69d2bd6b64156a2c52b7a173782aa338160016bb"), looks := true }, kinds := [], alts := [], laidByText := true, laidKinds := [.data, .data, .data, .data, .pinned], laidTests := true, laidLooks := .later }
def KeysRepliesCardSaid : Prop := Claim7.holds Tryd.pinned (.plain (OpenSpec.ofChange keysRepliesSpec)) keysRepliesCard

/-- THE TIED CARD OF 'phosphorlaw19.KeysBack'. -/
def keysBackCard : Claim7 := { stood := { row := keysBackRow, standIns := [], harness := (true, "4ad3f8e8913a5981ceb1697f69d2bd6b64156a2c52b7a173782aa338160016bb"), looks := true }, kinds := [], alts := [], laidByText := true, laidKinds := [.data, .data, .data, .data, .pinned], laidTests := true, laidLooks := .later }
def KeysBackCardSaid : Prop := Claim7.holds Tryd.pinned (.plain (OpenSpec.ofChange keysBackSpec)) keysBackCard

/-- THE TIED CARD OF 'phosphorlaw19.KeysLast'. -/
def keysLastCard : Claim7 := { stood := { row := keysLastRow, standIns := [], harness := (true, "4ad3f8e8913a5981ceb1697f69d2bd6b64156a2c52b7a173782aa338160016bb"), looks := true }, kinds := [], alts := [], laidByText := true, laidKinds := [.data, .data, .data, .data, .pinned], laidTests := true, laidLooks := .later }
def KeysLastCardSaid : Prop := Claim7.holds Tryd.pinned (.plain (OpenSpec.ofChange keysLastSpec)) keysLastCard

/-- THE TIED CARD OF 'phosphorlaw26.ScriptQuotes'. -/
def scriptQuotesCard : Claim7 := { stood := { row := scriptQuotesRow, standIns := [], harness := (true, "4ad3f8e8913a5981ceb1697f69d2bd6b64156a2c52b7a173782aa338160016bb"), looks := true }, kinds := [], alts := [], laidByText := true, laidKinds := [.data, .data, .data, .data, .sentinel, .sentinel, .pinned], laidTests := true, laidLooks := .later }
def ScriptQuotesCardSaid : Prop := Claim7.holds Tryd.pinned (.plain (OpenSpec.ofChange scriptQuotesSpec)) scriptQuotesCard

/-- THE TIED CARD OF 'phosphorlaw26.ScriptCuts'. -/
def scriptCutsCard : Claim7 := { stood := { row := scriptCutsRow, standIns := [], harness := (true, "4ad3f8e8913a5981ceb1697f69d2bd6b64156a2c52b7a173782aa338160016bb"), looks := true }, kinds := [], alts := [], laidByText := true, laidKinds := [.data, .data, .data, .data, .sentinel, .sentinel, .pinned], laidTests := true, laidLooks := .later }
def ScriptCutsCardSaid : Prop := Claim7.holds Tryd.pinned (.plain (OpenSpec.ofChange scriptCutsSpec)) scriptCutsCard

/-- THE SECOND FORM's CARD OF 'phosphorlaw19.KeysReplies'. -/
def keysRepliesUptoCard : Claim7 := { stood := { row := keysRepliesUptoRow, standIns := [], harness := (true, "4ad3f8e8913a5981ceb1697f69d2bd6b64156a2c52b7a173782aa338160016bb"), looks := true }, kinds := [], alts := [], laidByText := true, laidKinds := [.data, .data, .data, .data, .pinned], laidTests := true, laidLooks := .later }
def KeysRepliesUptoCardSaid : Prop := Claim7.holds Tryd.pinned (.plain (OpenSpec.upto keysRepliesSpec)) keysRepliesUptoCard

/-- THE SECOND FORM's CARD OF 'phosphorlaw19.KeysBack'. -/
def keysBackUptoCard : Claim7 := { stood := { row := keysBackUptoRow, standIns := [], harness := (true, "4ad3f8e8913a5981ceb1697f69d2bd6b64156a2c52b7a173782aa338160016bb"), looks := true }, kinds := [], alts := [], laidByText := true, laidKinds := [.data, .data, .data, .data, .pinned], laidTests := true, laidLooks := .later }
def KeysBackUptoCardSaid : Prop := Claim7.holds Tryd.pinned (.plain (OpenSpec.upto keysBackSpec)) keysBackUptoCard

/-- THE SECOND FORM's CARD OF 'phosphorlaw19.KeysLast'. -/
def keysLastUptoCard : Claim7 := { stood := { row := keysLastUptoRow, standIns := [], harness := (true, "4ad3f8e8913a5981ceb1697f69d2bd6b64156a2c52b7a173782aa338160016bb"), looks := true }, kinds := [], alts := [], laidByText := true, laidKinds := [.data, .data, .data, .data, .pinned], laidTests := true, laidLooks := .later }
def KeysLastUptoCardSaid : Prop := Claim7.holds Tryd.pinned (.plain (OpenSpec.upto keysLastSpec)) keysLastUptoCard

/-- THE SECOND FORM's CARD OF 'phosphorlaw26.ScriptQuotes'. -/
def scriptQuotesUptoCard : Claim7 := { stood := { row := scriptQuotesUptoRow, standIns := [], harness := (true, "4ad3f8e8913a5981ceb1697f69d2bd6b64156a2c52b7a173782aa338160016bb"), looks := true }, kinds := [], alts := [], laidByText := true, laidKinds := [.data, .data, .data, .data, .sentinel, .sentinel, .pinned], laidTests := true, laidLooks := .later }
def ScriptQuotesUptoCardSaid : Prop := Claim7.holds Tryd.pinned (.plain (OpenSpec.upto scriptQuotesSpec)) scriptQuotesUptoCard

/-- THE SECOND FORM's CARD OF 'phosphorlaw26.ScriptCuts'. -/
def scriptCutsUptoCard : Claim7 := { stood := { row := scriptCutsUptoRow, standIns := [], harness := (true, "4ad3f8e8913a5981ceb1697f69d2bd6b64156a2c52b7a173782aa338160016bb"), looks := true }, kinds := [], alts := [], laidByText := true, laidKinds := [.data, .data, .data, .data, .sentinel, .sentinel, .pinned], laidTests := true, laidLooks := .later }
def ScriptCutsUptoCardSaid : Prop := Claim7.holds Tryd.pinned (.plain (OpenSpec.upto scriptCutsSpec)) scriptCutsUptoCard
end Rows
end Go.Proofs.YtpadlibcalomnaaDoor
