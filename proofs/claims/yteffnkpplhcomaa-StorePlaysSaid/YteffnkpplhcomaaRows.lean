/-
  No cell of these rows narrows 'for every input' (looked for: loops, veiled, ifaces, maps, wideKeys, modest, calm, conditions, laid).
  DERIVED. THE GIVEN ROWS OF THIS SEAT. 12 by the template 'for every input the law returns true; each argument reads behind the call as it read before'; 0 by the template 'total and deterministic' (their statements: YteffnkpplhcomaaTotals.lean).
  GIVEN WITH THE SEED: the statements are not yours to turn. If you find one false, say at which input.
  Laid BY PROGRAM, IN A SANDBOX (cutbox-rows.mjs): the forced cells as the released guide's own fill.sh prints them over the translation 9ffc7ec11077b724… (all of the seat's roots in one cut). By AI agents, Wed Nov 11 2026. No macro, syntax, notation, axiom, sorry.
-/
import Derived.Test.YteffnkpplhcomaaChecked
import GoSem.Claim
import GoSem.ClaimJoined
import GoSem.ClaimMapViews
import Derived.JoinedTies
import Derived.KernelRfl
namespace Go.Proofs.Yteffnkpplhcomaa
/- THE CELL 'sum', in the pinned program and in every row, IS THE sha256 OF THE DUMP (.gsa) THAT YteffnkpplhcomaaProg.lean LOADS. Nothing in Lean hashes anything: it is a label: what it is worth is what the hold of that sum in a sandbox is worth. -/
noncomputable def Try.pinned : Pinned := { name := "yteffnkpplhcomaa", sum := "9ffc7ec11077b72497aebbe4e2dbb042f315216efd90883a1b8b27b2c7339b27", checked := Try.checked }
namespace Rows
def none {H : Type} : Left H := { results := [], args := [] }

/-- 'phosphorlaw21.StoreOwn': WHATEVER THE INPUT: true; the input reads as it did. -/
def storeOwnSpec : ChangeSpec := { name := "storeOwn", fn := fun _ => fun
  | [d1, d2] => { results := [.lit (.bool true)], args := [d1, d2] }
  | _ => none }
def storeOwnRow : OpenClaim := { program := "yteffnkpplhcomaa", sum := "9ffc7ec11077b72497aebbe4e2dbb042f315216efd90883a1b8b27b2c7339b27", func := "phosphor/phosphorlaw21.StoreOwn", spec := "storeOwn", unfollowed := true, recurses := true, apart := false }
def StoreOwnSaid : Prop := storeOwnRow.holds Try.pinned (OpenSpec.ofChange storeOwnSpec)

/-- ITS FALSE NEIGHBOUR: 'it returns false'. Refute it at one input. -/
def storeOwnWrong : ChangeSpec := { name := "storeOwn", fn := fun _ => fun
  | [d1, d2] => { results := [.lit (.bool false)], args := [d1, d2] }
  | _ => none }
def StoreOwnWrongFalsely : Prop := storeOwnRow.holds Try.pinned (OpenSpec.ofChange storeOwnWrong)

/-- 'phosphorlaw21.StoreNumbers': WHATEVER THE INPUT: true; the input reads as it did. -/
def storeNumbersSpec : ChangeSpec := { name := "storeNumbers", fn := fun _ => fun
  | [d1, d2, d3] => { results := [.lit (.bool true)], args := [d1, d2, d3] }
  | _ => none }
def storeNumbersRow : OpenClaim := { program := "yteffnkpplhcomaa", sum := "9ffc7ec11077b72497aebbe4e2dbb042f315216efd90883a1b8b27b2c7339b27", func := "phosphor/phosphorlaw21.StoreNumbers", spec := "storeNumbers", unfollowed := true, recurses := true, apart := false }
def StoreNumbersSaid : Prop := storeNumbersRow.holds Try.pinned (OpenSpec.ofChange storeNumbersSpec)

/-- ITS FALSE NEIGHBOUR: 'it returns false'. Refute it at one input. -/
def storeNumbersWrong : ChangeSpec := { name := "storeNumbers", fn := fun _ => fun
  | [d1, d2, d3] => { results := [.lit (.bool false)], args := [d1, d2, d3] }
  | _ => none }
def StoreNumbersWrongFalsely : Prop := storeNumbersRow.holds Try.pinned (OpenSpec.ofChange storeNumbersWrong)

/-- 'phosphorlaw5.InflateBack': WHATEVER THE INPUT: true; the input reads as it did. -/
def inflateBackSpec : ChangeSpec := { name := "inflateBack", fn := fun _ => fun
  | [d1, d2, d3] => { results := [.lit (.bool true)], args := [d1, d2, d3] }
  | _ => none }
def inflateBackRow : OpenClaim := { program := "yteffnkpplhcomaa", sum := "9ffc7ec11077b72497aebbe4e2dbb042f315216efd90883a1b8b27b2c7339b27", func := "phosphor/phosphorlaw5.InflateBack", spec := "inflateBack", apart := false }
def InflateBackSaid : Prop := inflateBackRow.holds Try.pinned (OpenSpec.ofChange inflateBackSpec)

/-- ITS FALSE NEIGHBOUR: 'it returns false'. Refute it at one input. -/
def inflateBackWrong : ChangeSpec := { name := "inflateBack", fn := fun _ => fun
  | [d1, d2, d3] => { results := [.lit (.bool false)], args := [d1, d2, d3] }
  | _ => none }
def InflateBackWrongFalsely : Prop := inflateBackRow.holds Try.pinned (OpenSpec.ofChange inflateBackWrong)

/-- 'phosphorlaw5.InflateCaps': WHATEVER THE INPUT: true; the input reads as it did. -/
def inflateCapsSpec : ChangeSpec := { name := "inflateCaps", fn := fun _ => fun
  | [d1, d2, d3] => { results := [.lit (.bool true)], args := [d1, d2, d3] }
  | _ => none }
def inflateCapsRow : OpenClaim := { program := "yteffnkpplhcomaa", sum := "9ffc7ec11077b72497aebbe4e2dbb042f315216efd90883a1b8b27b2c7339b27", func := "phosphor/phosphorlaw5.InflateCaps", spec := "inflateCaps", apart := false }
def InflateCapsSaid : Prop := inflateCapsRow.holds Try.pinned (OpenSpec.ofChange inflateCapsSpec)

/-- ITS FALSE NEIGHBOUR: 'it returns false'. Refute it at one input. -/
def inflateCapsWrong : ChangeSpec := { name := "inflateCaps", fn := fun _ => fun
  | [d1, d2, d3] => { results := [.lit (.bool false)], args := [d1, d2, d3] }
  | _ => none }
def InflateCapsWrongFalsely : Prop := inflateCapsRow.holds Try.pinned (OpenSpec.ofChange inflateCapsWrong)

/-- 'phosphorlaw5.InflateFronts': WHATEVER THE INPUT: true; the input reads as it did. -/
def inflateFrontsSpec : ChangeSpec := { name := "inflateFronts", fn := fun _ => fun
  | [d1, d2, d3] => { results := [.lit (.bool true)], args := [d1, d2, d3] }
  | _ => none }
def inflateFrontsRow : OpenClaim := { program := "yteffnkpplhcomaa", sum := "9ffc7ec11077b72497aebbe4e2dbb042f315216efd90883a1b8b27b2c7339b27", func := "phosphor/phosphorlaw5.InflateFronts", spec := "inflateFronts", apart := false }
def InflateFrontsSaid : Prop := inflateFrontsRow.holds Try.pinned (OpenSpec.ofChange inflateFrontsSpec)

/-- ITS FALSE NEIGHBOUR: 'it returns false'. Refute it at one input. -/
def inflateFrontsWrong : ChangeSpec := { name := "inflateFronts", fn := fun _ => fun
  | [d1, d2, d3] => { results := [.lit (.bool false)], args := [d1, d2, d3] }
  | _ => none }
def InflateFrontsWrongFalsely : Prop := inflateFrontsRow.holds Try.pinned (OpenSpec.ofChange inflateFrontsWrong)

/-- 'phosphorlaw5.InflateTwo': WHATEVER THE INPUT: true; the input reads as it did. -/
def inflateTwoSpec : ChangeSpec := { name := "inflateTwo", fn := fun _ => fun
  | [d1, d2, d3] => { results := [.lit (.bool true)], args := [d1, d2, d3] }
  | _ => none }
def inflateTwoRow : OpenClaim := { program := "yteffnkpplhcomaa", sum := "9ffc7ec11077b72497aebbe4e2dbb042f315216efd90883a1b8b27b2c7339b27", func := "phosphor/phosphorlaw5.InflateTwo", spec := "inflateTwo", apart := false }
def InflateTwoSaid : Prop := inflateTwoRow.holds Try.pinned (OpenSpec.ofChange inflateTwoSpec)

/-- ITS FALSE NEIGHBOUR: 'it returns false'. Refute it at one input. -/
def inflateTwoWrong : ChangeSpec := { name := "inflateTwo", fn := fun _ => fun
  | [d1, d2, d3] => { results := [.lit (.bool false)], args := [d1, d2, d3] }
  | _ => none }
def InflateTwoWrongFalsely : Prop := inflateTwoRow.holds Try.pinned (OpenSpec.ofChange inflateTwoWrong)

/-- 'phosphorlaw21.StoreEldest': WHATEVER THE INPUT: true; the input reads as it did. -/
def storeEldestSpec : ChangeSpec := { name := "storeEldest", fn := fun _ => fun
  | [d1, d2] => { results := [.lit (.bool true)], args := [d1, d2] }
  | _ => none }
def storeEldestRow : OpenClaim := { program := "yteffnkpplhcomaa", sum := "9ffc7ec11077b72497aebbe4e2dbb042f315216efd90883a1b8b27b2c7339b27", func := "phosphor/phosphorlaw21.StoreEldest", spec := "storeEldest", inPlace := ["maps.clone"], unfollowed := true, recurses := true, apart := false }
def StoreEldestSaid : Prop := storeEldestRow.holds Try.pinned (OpenSpec.ofChange storeEldestSpec)

/-- ITS FALSE NEIGHBOUR: 'it returns false'. Refute it at one input. -/
def storeEldestWrong : ChangeSpec := { name := "storeEldest", fn := fun _ => fun
  | [d1, d2] => { results := [.lit (.bool false)], args := [d1, d2] }
  | _ => none }
def StoreEldestWrongFalsely : Prop := storeEldestRow.holds Try.pinned (OpenSpec.ofChange storeEldestWrong)

/-- 'phosphorlaw21.StorePlays': WHATEVER THE INPUT: true; the input reads as it did. -/
def storePlaysSpec : ChangeSpec := { name := "storePlays", fn := fun _ => fun
  | [d1, d2] => { results := [.lit (.bool true)], args := [d1, d2] }
  | _ => none }
def storePlaysRow : OpenClaim := { program := "yteffnkpplhcomaa", sum := "9ffc7ec11077b72497aebbe4e2dbb042f315216efd90883a1b8b27b2c7339b27", func := "phosphor/phosphorlaw21.StorePlays", spec := "storePlays", inPlace := ["maps.clone"], unfollowed := true, recurses := true, apart := false }
def StorePlaysSaid : Prop := storePlaysRow.holds Try.pinned (OpenSpec.ofChange storePlaysSpec)

/-- ITS FALSE NEIGHBOUR: 'it returns false'. Refute it at one input. -/
def storePlaysWrong : ChangeSpec := { name := "storePlays", fn := fun _ => fun
  | [d1, d2] => { results := [.lit (.bool false)], args := [d1, d2] }
  | _ => none }
def StorePlaysWrongFalsely : Prop := storePlaysRow.holds Try.pinned (OpenSpec.ofChange storePlaysWrong)

/-- 'phosphorlaw6.ZlibStreams': WHATEVER THE INPUT: true; the input reads as it did. -/
def zlibStreamsSpec : ChangeSpec := { name := "zlibStreams", fn := fun _ => fun
  | [d1, d2, d3, d4] => { results := [.lit (.bool true)], args := [d1, d2, d3, d4] }
  | _ => none }
def zlibStreamsRow : OpenClaim := { program := "yteffnkpplhcomaa", sum := "9ffc7ec11077b72497aebbe4e2dbb042f315216efd90883a1b8b27b2c7339b27", func := "phosphor/phosphorlaw6.ZlibStreams", spec := "zlibStreams", unfollowed := true, recurses := true, apart := false }
def ZlibStreamsSaid : Prop := zlibStreamsRow.holds Try.pinned (OpenSpec.ofChange zlibStreamsSpec)

/-- ITS FALSE NEIGHBOUR: 'it returns false'. Refute it at one input. -/
def zlibStreamsWrong : ChangeSpec := { name := "zlibStreams", fn := fun _ => fun
  | [d1, d2, d3, d4] => { results := [.lit (.bool false)], args := [d1, d2, d3, d4] }
  | _ => none }
def ZlibStreamsWrongFalsely : Prop := zlibStreamsRow.holds Try.pinned (OpenSpec.ofChange zlibStreamsWrong)

/-- 'phosphorlaw6.ZlibBack': WHATEVER THE INPUT: true; the input reads as it did. -/
def zlibBackSpec : ChangeSpec := { name := "zlibBack", fn := fun _ => fun
  | [d1, d2, d3, d4] => { results := [.lit (.bool true)], args := [d1, d2, d3, d4] }
  | _ => none }
def zlibBackRow : OpenClaim := { program := "yteffnkpplhcomaa", sum := "9ffc7ec11077b72497aebbe4e2dbb042f315216efd90883a1b8b27b2c7339b27", func := "phosphor/phosphorlaw6.ZlibBack", spec := "zlibBack", unfollowed := true, recurses := true, apart := false }
def ZlibBackSaid : Prop := zlibBackRow.holds Try.pinned (OpenSpec.ofChange zlibBackSpec)

/-- ITS FALSE NEIGHBOUR: 'it returns false'. Refute it at one input. -/
def zlibBackWrong : ChangeSpec := { name := "zlibBack", fn := fun _ => fun
  | [d1, d2, d3, d4] => { results := [.lit (.bool false)], args := [d1, d2, d3, d4] }
  | _ => none }
def ZlibBackWrongFalsely : Prop := zlibBackRow.holds Try.pinned (OpenSpec.ofChange zlibBackWrong)

/-- 'phosphorlaw6.ZlibFronts': WHATEVER THE INPUT: true; the input reads as it did. -/
def zlibFrontsSpec : ChangeSpec := { name := "zlibFronts", fn := fun _ => fun
  | [d1, d2, d3, d4] => { results := [.lit (.bool true)], args := [d1, d2, d3, d4] }
  | _ => none }
def zlibFrontsRow : OpenClaim := { program := "yteffnkpplhcomaa", sum := "9ffc7ec11077b72497aebbe4e2dbb042f315216efd90883a1b8b27b2c7339b27", func := "phosphor/phosphorlaw6.ZlibFronts", spec := "zlibFronts", unfollowed := true, recurses := true, apart := false }
def ZlibFrontsSaid : Prop := zlibFrontsRow.holds Try.pinned (OpenSpec.ofChange zlibFrontsSpec)

/-- ITS FALSE NEIGHBOUR: 'it returns false'. Refute it at one input. -/
def zlibFrontsWrong : ChangeSpec := { name := "zlibFronts", fn := fun _ => fun
  | [d1, d2, d3, d4] => { results := [.lit (.bool false)], args := [d1, d2, d3, d4] }
  | _ => none }
def ZlibFrontsWrongFalsely : Prop := zlibFrontsRow.holds Try.pinned (OpenSpec.ofChange zlibFrontsWrong)

/-- 'phosphorlaw6.ZlibPieces': WHATEVER THE INPUT: true; the input reads as it did. -/
def zlibPiecesSpec : ChangeSpec := { name := "zlibPieces", fn := fun _ => fun
  | [d1, d2, d3] => { results := [.lit (.bool true)], args := [d1, d2, d3] }
  | _ => none }
def zlibPiecesRow : OpenClaim := { program := "yteffnkpplhcomaa", sum := "9ffc7ec11077b72497aebbe4e2dbb042f315216efd90883a1b8b27b2c7339b27", func := "phosphor/phosphorlaw6.ZlibPieces", spec := "zlibPieces", unfollowed := true, recurses := true, apart := false }
def ZlibPiecesSaid : Prop := zlibPiecesRow.holds Try.pinned (OpenSpec.ofChange zlibPiecesSpec)

/-- ITS FALSE NEIGHBOUR: 'it returns false'. Refute it at one input. -/
def zlibPiecesWrong : ChangeSpec := { name := "zlibPieces", fn := fun _ => fun
  | [d1, d2, d3] => { results := [.lit (.bool false)], args := [d1, d2, d3] }
  | _ => none }
def ZlibPiecesWrongFalsely : Prop := zlibPiecesRow.holds Try.pinned (OpenSpec.ofChange zlibPiecesWrong)

/- THE SECOND FORM. 'bulk': how many values and letters a reading holds, each counted each time it is reached (what is shared counts as often as it is met; a slice's spare places count too). A statement '..UptoSaid' is the law's where the arguments, and the package variables that the reading takes, are together of bulk at most 1048576: NARROWER than '..Said'. Prove '..Said' where nothing that the law and all that it calls make is longer than what came in: it says more and counts as full. Else prove '..UptoSaid'. A law counts once. -/
mutual
def uptoBulk {H : Type} : DataW H → Nat
  | .lit (.string bytes) => bytes.length + 1
  | .lit _ => 1
  | .nil => 1
  | .ptr d => uptoBulk d + 1
  | .slice elems spare => uptoBulkAll elems + uptoBulkAll spare + 1
  | .agg parts => uptoBulkAll parts + 1
  | .iface _ d => uptoBulk d + 1
  | .map entries => uptoBulkEntries entries + 1
  | .held _ => 1
def uptoBulkAll {H : Type} : List (DataW H) → Nat
  | [] => 0
  | d :: r => uptoBulk d + uptoBulkAll r
def uptoBulkEntries {H : Type} : List (Lit × DataW H) → Nat
  | [] => 0
  | x :: r => uptoBulkEntry x + uptoBulkEntries r
def uptoBulkEntry {H : Type} : Lit × DataW H → Nat
  | (.string bytes, d) => bytes.length + uptoBulk d + 1
  | (_, d) => uptoBulk d + 1
 end
def uptoSmall : (H : Type) → List (DataW H) → Bool := fun _ ds => decide (uptoBulkAll ds ≤ 1048576)
def OpenSpec.upto (s : _root_.Go.ChangeSpec) : _root_.Go.OpenSpec := { _root_.Go.OpenSpec.ofChange s with cond := some uptoSmall }

/-- 'phosphorlaw21.StoreOwn', WHERE WHAT IT READS IS OF BULK AT MOST 1048576: true; the input reads as it did. -/
def storeOwnUptoRow : OpenClaim := { program := "yteffnkpplhcomaa", sum := "9ffc7ec11077b72497aebbe4e2dbb042f315216efd90883a1b8b27b2c7339b27", func := "phosphor/phosphorlaw21.StoreOwn", spec := "storeOwn", unfollowed := true, recurses := true, apart := false, narrowed := true }
def StoreOwnUptoSaid : Prop := storeOwnUptoRow.holds Try.pinned (OpenSpec.upto storeOwnSpec)

/-- 'phosphorlaw21.StoreNumbers', WHERE WHAT IT READS IS OF BULK AT MOST 1048576: true; the input reads as it did. -/
def storeNumbersUptoRow : OpenClaim := { program := "yteffnkpplhcomaa", sum := "9ffc7ec11077b72497aebbe4e2dbb042f315216efd90883a1b8b27b2c7339b27", func := "phosphor/phosphorlaw21.StoreNumbers", spec := "storeNumbers", unfollowed := true, recurses := true, apart := false, narrowed := true }
def StoreNumbersUptoSaid : Prop := storeNumbersUptoRow.holds Try.pinned (OpenSpec.upto storeNumbersSpec)

/-- 'phosphorlaw5.InflateBack', WHERE WHAT IT READS IS OF BULK AT MOST 1048576: true; the input reads as it did. -/
def inflateBackUptoRow : OpenClaim := { program := "yteffnkpplhcomaa", sum := "9ffc7ec11077b72497aebbe4e2dbb042f315216efd90883a1b8b27b2c7339b27", func := "phosphor/phosphorlaw5.InflateBack", spec := "inflateBack", apart := false, narrowed := true }
def InflateBackUptoSaid : Prop := inflateBackUptoRow.holds Try.pinned (OpenSpec.upto inflateBackSpec)

/-- 'phosphorlaw5.InflateCaps', WHERE WHAT IT READS IS OF BULK AT MOST 1048576: true; the input reads as it did. -/
def inflateCapsUptoRow : OpenClaim := { program := "yteffnkpplhcomaa", sum := "9ffc7ec11077b72497aebbe4e2dbb042f315216efd90883a1b8b27b2c7339b27", func := "phosphor/phosphorlaw5.InflateCaps", spec := "inflateCaps", apart := false, narrowed := true }
def InflateCapsUptoSaid : Prop := inflateCapsUptoRow.holds Try.pinned (OpenSpec.upto inflateCapsSpec)

/-- 'phosphorlaw5.InflateFronts', WHERE WHAT IT READS IS OF BULK AT MOST 1048576: true; the input reads as it did. -/
def inflateFrontsUptoRow : OpenClaim := { program := "yteffnkpplhcomaa", sum := "9ffc7ec11077b72497aebbe4e2dbb042f315216efd90883a1b8b27b2c7339b27", func := "phosphor/phosphorlaw5.InflateFronts", spec := "inflateFronts", apart := false, narrowed := true }
def InflateFrontsUptoSaid : Prop := inflateFrontsUptoRow.holds Try.pinned (OpenSpec.upto inflateFrontsSpec)

/-- 'phosphorlaw5.InflateTwo', WHERE WHAT IT READS IS OF BULK AT MOST 1048576: true; the input reads as it did. -/
def inflateTwoUptoRow : OpenClaim := { program := "yteffnkpplhcomaa", sum := "9ffc7ec11077b72497aebbe4e2dbb042f315216efd90883a1b8b27b2c7339b27", func := "phosphor/phosphorlaw5.InflateTwo", spec := "inflateTwo", apart := false, narrowed := true }
def InflateTwoUptoSaid : Prop := inflateTwoUptoRow.holds Try.pinned (OpenSpec.upto inflateTwoSpec)

/-- 'phosphorlaw21.StoreEldest', WHERE WHAT IT READS IS OF BULK AT MOST 1048576: true; the input reads as it did. -/
def storeEldestUptoRow : OpenClaim := { program := "yteffnkpplhcomaa", sum := "9ffc7ec11077b72497aebbe4e2dbb042f315216efd90883a1b8b27b2c7339b27", func := "phosphor/phosphorlaw21.StoreEldest", spec := "storeEldest", inPlace := ["maps.clone"], unfollowed := true, recurses := true, apart := false, narrowed := true }
def StoreEldestUptoSaid : Prop := storeEldestUptoRow.holds Try.pinned (OpenSpec.upto storeEldestSpec)

/-- 'phosphorlaw21.StorePlays', WHERE WHAT IT READS IS OF BULK AT MOST 1048576: true; the input reads as it did. -/
def storePlaysUptoRow : OpenClaim := { program := "yteffnkpplhcomaa", sum := "9ffc7ec11077b72497aebbe4e2dbb042f315216efd90883a1b8b27b2c7339b27", func := "phosphor/phosphorlaw21.StorePlays", spec := "storePlays", inPlace := ["maps.clone"], unfollowed := true, recurses := true, apart := false, narrowed := true }
def StorePlaysUptoSaid : Prop := storePlaysUptoRow.holds Try.pinned (OpenSpec.upto storePlaysSpec)

/-- 'phosphorlaw6.ZlibStreams', WHERE WHAT IT READS IS OF BULK AT MOST 1048576: true; the input reads as it did. -/
def zlibStreamsUptoRow : OpenClaim := { program := "yteffnkpplhcomaa", sum := "9ffc7ec11077b72497aebbe4e2dbb042f315216efd90883a1b8b27b2c7339b27", func := "phosphor/phosphorlaw6.ZlibStreams", spec := "zlibStreams", unfollowed := true, recurses := true, apart := false, narrowed := true }
def ZlibStreamsUptoSaid : Prop := zlibStreamsUptoRow.holds Try.pinned (OpenSpec.upto zlibStreamsSpec)

/-- 'phosphorlaw6.ZlibBack', WHERE WHAT IT READS IS OF BULK AT MOST 1048576: true; the input reads as it did. -/
def zlibBackUptoRow : OpenClaim := { program := "yteffnkpplhcomaa", sum := "9ffc7ec11077b72497aebbe4e2dbb042f315216efd90883a1b8b27b2c7339b27", func := "phosphor/phosphorlaw6.ZlibBack", spec := "zlibBack", unfollowed := true, recurses := true, apart := false, narrowed := true }
def ZlibBackUptoSaid : Prop := zlibBackUptoRow.holds Try.pinned (OpenSpec.upto zlibBackSpec)

/-- 'phosphorlaw6.ZlibFronts', WHERE WHAT IT READS IS OF BULK AT MOST 1048576: true; the input reads as it did. -/
def zlibFrontsUptoRow : OpenClaim := { program := "yteffnkpplhcomaa", sum := "9ffc7ec11077b72497aebbe4e2dbb042f315216efd90883a1b8b27b2c7339b27", func := "phosphor/phosphorlaw6.ZlibFronts", spec := "zlibFronts", unfollowed := true, recurses := true, apart := false, narrowed := true }
def ZlibFrontsUptoSaid : Prop := zlibFrontsUptoRow.holds Try.pinned (OpenSpec.upto zlibFrontsSpec)

/-- 'phosphorlaw6.ZlibPieces', WHERE WHAT IT READS IS OF BULK AT MOST 1048576: true; the input reads as it did. -/
def zlibPiecesUptoRow : OpenClaim := { program := "yteffnkpplhcomaa", sum := "9ffc7ec11077b72497aebbe4e2dbb042f315216efd90883a1b8b27b2c7339b27", func := "phosphor/phosphorlaw6.ZlibPieces", spec := "zlibPieces", unfollowed := true, recurses := true, apart := false, narrowed := true }
def ZlibPiecesUptoSaid : Prop := zlibPiecesUptoRow.holds Try.pinned (OpenSpec.upto zlibPiecesSpec)

end Rows
end Go.Proofs.Yteffnkpplhcomaa
