/-
  No cell of these rows narrows 'for every input' (looked for: loops, veiled, ifaces, maps, wideKeys, modest, calm, conditions, laid).
  DERIVED. THE GIVEN ROWS OF THIS SEAT. 10 by the template 'for every input the law returns true; each argument reads behind the call as it read before'; 0 by the template 'total and deterministic' (their statements: YtmagnpcgpinmcaaGreatTotals.lean).
  GIVEN WITH THE SEED: the statements are not yours to turn. If you find one false, say at which input.
  Laid BY PROGRAM, IN A SANDBOX (cutbox-rows.mjs): the forced cells as the released guide's own fill.sh prints them over the translation e10013a9cca70d9d… (all of the seat's roots in one cut). By AI agents, Wed Nov 11 2026. No macro, syntax, notation, axiom, sorry.
-/
import Derived.Test.YtmagnpcgpinmcaaGreatChecked
import GoSem.Claim
import GoSem.ClaimJoined
import GoSem.ClaimMapViews
import Derived.JoinedTies
import Derived.KernelRfl
namespace Go.Proofs.YtmagnpcgpinmcaaGreat
/- THE CELL 'sum', in the pinned program and in every row, IS THE sha256 OF THE DUMP (.gsa) THAT YtmagnpcgpinmcaaGreatProg.lean LOADS. Nothing in Lean hashes anything: it is a label: what it is worth is what the hold of that sum in a sandbox is worth. -/
noncomputable def Tryz.pinned : Pinned := { name := "ytmagnpcgpinmcaagreat", sum := "e10013a9cca70d9d4f9b1bcdca9106fd5f79f713021a1bb86d3108ea1432cf1e", checked := Tryz.checked }
namespace Rows
def none {H : Type} : Left H := { results := [], args := [] }

/-- 'phosphorlaw9.PngFiles': WHATEVER THE INPUT: true; the input reads as it did. -/
def pngFilesSpec : ChangeSpec := { name := "pngFiles", fn := fun _ => fun
  | [d1, d2] => { results := [.lit (.bool true)], args := [d1, d2] }
  | _ => none }
def pngFilesRow : OpenClaim := { program := "ytmagnpcgpinmcaagreat", sum := "e10013a9cca70d9d4f9b1bcdca9106fd5f79f713021a1bb86d3108ea1432cf1e", func := "phosphor/phosphorlaw9.PngFiles", spec := "pngFiles", unfollowed := true, recurses := true, apart := false }
def PngFilesSaid : Prop := pngFilesRow.holds Tryz.pinned (OpenSpec.ofChange pngFilesSpec)

/-- ITS FALSE NEIGHBOUR: 'it returns false'. Refute it at one input. -/
def pngFilesWrong : ChangeSpec := { name := "pngFiles", fn := fun _ => fun
  | [d1, d2] => { results := [.lit (.bool false)], args := [d1, d2] }
  | _ => none }
def PngFilesWrongFalsely : Prop := pngFilesRow.holds Tryz.pinned (OpenSpec.ofChange pngFilesWrong)

/-- 'phosphorlaw9.PngChunks': WHATEVER THE INPUT: true; the input reads as it did. -/
def pngChunksSpec : ChangeSpec := { name := "pngChunks", fn := fun _ => fun
  | [d1, d2] => { results := [.lit (.bool true)], args := [d1, d2] }
  | _ => none }
def pngChunksRow : OpenClaim := { program := "ytmagnpcgpinmcaagreat", sum := "e10013a9cca70d9d4f9b1bcdca9106fd5f79f713021a1bb86d3108ea1432cf1e", func := "phosphor/phosphorlaw9.PngChunks", spec := "pngChunks", unfollowed := true, recurses := true, apart := false }
def PngChunksSaid : Prop := pngChunksRow.holds Tryz.pinned (OpenSpec.ofChange pngChunksSpec)

/-- ITS FALSE NEIGHBOUR: 'it returns false'. Refute it at one input. -/
def pngChunksWrong : ChangeSpec := { name := "pngChunks", fn := fun _ => fun
  | [d1, d2] => { results := [.lit (.bool false)], args := [d1, d2] }
  | _ => none }
def PngChunksWrongFalsely : Prop := pngChunksRow.holds Tryz.pinned (OpenSpec.ofChange pngChunksWrong)

/-- 'phosphorlaw9.PngHeads': WHATEVER THE INPUT: true; the input reads as it did. -/
def pngHeadsSpec : ChangeSpec := { name := "pngHeads", fn := fun _ => fun
  | [d] => { results := [.lit (.bool true)], args := [d] }
  | _ => none }
def pngHeadsRow : OpenClaim := { program := "ytmagnpcgpinmcaagreat", sum := "e10013a9cca70d9d4f9b1bcdca9106fd5f79f713021a1bb86d3108ea1432cf1e", func := "phosphor/phosphorlaw9.PngHeads", spec := "pngHeads", unfollowed := true, recurses := true, apart := false }
def PngHeadsSaid : Prop := pngHeadsRow.holds Tryz.pinned (OpenSpec.ofChange pngHeadsSpec)

/-- ITS FALSE NEIGHBOUR: 'it returns false'. Refute it at one input. -/
def pngHeadsWrong : ChangeSpec := { name := "pngHeads", fn := fun _ => fun
  | [d] => { results := [.lit (.bool false)], args := [d] }
  | _ => none }
def PngHeadsWrongFalsely : Prop := pngHeadsRow.holds Tryz.pinned (OpenSpec.ofChange pngHeadsWrong)

/-- 'phosphorlaw9.PngBack': WHATEVER THE INPUT: true; the input reads as it did. -/
def pngBackSpec : ChangeSpec := { name := "pngBack", fn := fun _ => fun
  | [d1, d2, d3] => { results := [.lit (.bool true)], args := [d1, d2, d3] }
  | _ => none }
def pngBackRow : OpenClaim := { program := "ytmagnpcgpinmcaagreat", sum := "e10013a9cca70d9d4f9b1bcdca9106fd5f79f713021a1bb86d3108ea1432cf1e", func := "phosphor/phosphorlaw9.PngBack", spec := "pngBack", unfollowed := true, recurses := true, apart := false }
def PngBackSaid : Prop := pngBackRow.holds Tryz.pinned (OpenSpec.ofChange pngBackSpec)

/-- ITS FALSE NEIGHBOUR: 'it returns false'. Refute it at one input. -/
def pngBackWrong : ChangeSpec := { name := "pngBack", fn := fun _ => fun
  | [d1, d2, d3] => { results := [.lit (.bool false)], args := [d1, d2, d3] }
  | _ => none }
def PngBackWrongFalsely : Prop := pngBackRow.holds Tryz.pinned (OpenSpec.ofChange pngBackWrong)

/-- 'phosphorlaw9.PngSums': WHATEVER THE INPUT: true; the input reads as it did. -/
def pngSumsSpec : ChangeSpec := { name := "pngSums", fn := fun _ => fun
  | [d1, d2] => { results := [.lit (.bool true)], args := [d1, d2] }
  | _ => none }
def pngSumsRow : OpenClaim := { program := "ytmagnpcgpinmcaagreat", sum := "e10013a9cca70d9d4f9b1bcdca9106fd5f79f713021a1bb86d3108ea1432cf1e", func := "phosphor/phosphorlaw9.PngSums", spec := "pngSums", unfollowed := true, recurses := true, apart := false }
def PngSumsSaid : Prop := pngSumsRow.holds Tryz.pinned (OpenSpec.ofChange pngSumsSpec)

/-- ITS FALSE NEIGHBOUR: 'it returns false'. Refute it at one input. -/
def pngSumsWrong : ChangeSpec := { name := "pngSums", fn := fun _ => fun
  | [d1, d2] => { results := [.lit (.bool false)], args := [d1, d2] }
  | _ => none }
def PngSumsWrongFalsely : Prop := pngSumsRow.holds Tryz.pinned (OpenSpec.ofChange pngSumsWrong)

/-- 'phosphorlaw9.PngOrders': WHATEVER THE INPUT: true; the input reads as it did. -/
def pngOrdersSpec : ChangeSpec := { name := "pngOrders", fn := fun _ => fun
  | [d1, d2, d3, d4, d5] => { results := [.lit (.bool true)], args := [d1, d2, d3, d4, d5] }
  | _ => none }
def pngOrdersRow : OpenClaim := { program := "ytmagnpcgpinmcaagreat", sum := "e10013a9cca70d9d4f9b1bcdca9106fd5f79f713021a1bb86d3108ea1432cf1e", func := "phosphor/phosphorlaw9.PngOrders", spec := "pngOrders", unfollowed := true, recurses := true, apart := false }
def PngOrdersSaid : Prop := pngOrdersRow.holds Tryz.pinned (OpenSpec.ofChange pngOrdersSpec)

/-- ITS FALSE NEIGHBOUR: 'it returns false'. Refute it at one input. -/
def pngOrdersWrong : ChangeSpec := { name := "pngOrders", fn := fun _ => fun
  | [d1, d2, d3, d4, d5] => { results := [.lit (.bool false)], args := [d1, d2, d3, d4, d5] }
  | _ => none }
def PngOrdersWrongFalsely : Prop := pngOrdersRow.holds Tryz.pinned (OpenSpec.ofChange pngOrdersWrong)

/-- 'phosphorlaw20.LoadPlays': WHATEVER THE INPUT: true; the input reads as it did. -/
def loadPlaysSpec : ChangeSpec := { name := "loadPlays", fn := fun _ => fun
  | [d1, d2, d3] => { results := [.lit (.bool true)], args := [d1, d2, d3] }
  | _ => none }
def loadPlaysRow : OpenClaim := { program := "ytmagnpcgpinmcaagreat", sum := "e10013a9cca70d9d4f9b1bcdca9106fd5f79f713021a1bb86d3108ea1432cf1e", func := "phosphor/phosphorlaw20.LoadPlays", spec := "loadPlays", inPlace := ["internal/bytealg.IndexByteString"], unfollowed := true, recurses := true, apart := false }
def LoadPlaysSaid : Prop := loadPlaysRow.holds Tryz.pinned (OpenSpec.ofChange loadPlaysSpec)

/-- ITS FALSE NEIGHBOUR: 'it returns false'. Refute it at one input. -/
def loadPlaysWrong : ChangeSpec := { name := "loadPlays", fn := fun _ => fun
  | [d1, d2, d3] => { results := [.lit (.bool false)], args := [d1, d2, d3] }
  | _ => none }
def LoadPlaysWrongFalsely : Prop := loadPlaysRow.holds Tryz.pinned (OpenSpec.ofChange loadPlaysWrong)

/-- 'phosphorlaw20.LoadCuts': WHATEVER THE INPUT: true; the input reads as it did. -/
def loadCutsSpec : ChangeSpec := { name := "loadCuts", fn := fun _ => fun
  | [d1, d2, d3] => { results := [.lit (.bool true)], args := [d1, d2, d3] }
  | _ => none }
def loadCutsRow : OpenClaim := { program := "ytmagnpcgpinmcaagreat", sum := "e10013a9cca70d9d4f9b1bcdca9106fd5f79f713021a1bb86d3108ea1432cf1e", func := "phosphor/phosphorlaw20.LoadCuts", spec := "loadCuts", inPlace := ["internal/bytealg.IndexByteString"], unfollowed := true, recurses := true, apart := false }
def LoadCutsSaid : Prop := loadCutsRow.holds Tryz.pinned (OpenSpec.ofChange loadCutsSpec)

/-- ITS FALSE NEIGHBOUR: 'it returns false'. Refute it at one input. -/
def loadCutsWrong : ChangeSpec := { name := "loadCuts", fn := fun _ => fun
  | [d1, d2, d3] => { results := [.lit (.bool false)], args := [d1, d2, d3] }
  | _ => none }
def LoadCutsWrongFalsely : Prop := loadCutsRow.holds Tryz.pinned (OpenSpec.ofChange loadCutsWrong)

/-- 'phosphorlaw20.LoadRooms': WHATEVER THE INPUT: true; the input reads as it did. -/
def loadRoomsSpec : ChangeSpec := { name := "loadRooms", fn := fun _ => fun
  | [d1, d2, d3, d4] => { results := [.lit (.bool true)], args := [d1, d2, d3, d4] }
  | _ => none }
def loadRoomsRow : OpenClaim := { program := "ytmagnpcgpinmcaagreat", sum := "e10013a9cca70d9d4f9b1bcdca9106fd5f79f713021a1bb86d3108ea1432cf1e", func := "phosphor/phosphorlaw20.LoadRooms", spec := "loadRooms", inPlace := ["internal/bytealg.IndexByteString"], unfollowed := true, recurses := true, apart := false }
def LoadRoomsSaid : Prop := loadRoomsRow.holds Tryz.pinned (OpenSpec.ofChange loadRoomsSpec)

/-- ITS FALSE NEIGHBOUR: 'it returns false'. Refute it at one input. -/
def loadRoomsWrong : ChangeSpec := { name := "loadRooms", fn := fun _ => fun
  | [d1, d2, d3, d4] => { results := [.lit (.bool false)], args := [d1, d2, d3, d4] }
  | _ => none }
def LoadRoomsWrongFalsely : Prop := loadRoomsRow.holds Tryz.pinned (OpenSpec.ofChange loadRoomsWrong)

/-- 'phosphorlaw20.LoadImages': WHATEVER THE INPUT: true; the input reads as it did. -/
def loadImagesSpec : ChangeSpec := { name := "loadImages", fn := fun _ => fun
  | [d1, d2, d3, d4] => { results := [.lit (.bool true)], args := [d1, d2, d3, d4] }
  | _ => none }
def loadImagesRow : OpenClaim := { program := "ytmagnpcgpinmcaagreat", sum := "e10013a9cca70d9d4f9b1bcdca9106fd5f79f713021a1bb86d3108ea1432cf1e", func := "phosphor/phosphorlaw20.LoadImages", spec := "loadImages", inPlace := ["internal/bytealg.IndexByteString"], unfollowed := true, recurses := true, apart := false }
def LoadImagesSaid : Prop := loadImagesRow.holds Tryz.pinned (OpenSpec.ofChange loadImagesSpec)

/-- ITS FALSE NEIGHBOUR: 'it returns false'. Refute it at one input. -/
def loadImagesWrong : ChangeSpec := { name := "loadImages", fn := fun _ => fun
  | [d1, d2, d3, d4] => { results := [.lit (.bool false)], args := [d1, d2, d3, d4] }
  | _ => none }
def LoadImagesWrongFalsely : Prop := loadImagesRow.holds Tryz.pinned (OpenSpec.ofChange loadImagesWrong)

/- THE SECOND FORM. 'bulk': how many values and letters a reading holds, each counted each time it is reached (what is shared counts as often as it is met; a slice's spare places count too). A statement '..UptoSaid' is the law's where the arguments, and the package variables that the reading takes, are together of bulk at most 1048576: NARROWER than '..Said'. Prove '..Said' where nothing that the law and all that it calls make is longer than what came in: it says more and counts as full. Else prove '..UptoSaid'. A law counts once. -/
mutual
def uptoBulk {H : Type} : DataW H → Nat
  | .lit (.string bytes) => bytes.length + 1
  | .lit _ => 1
  | .nil => 1
  | .ptr d => uptoBulk d + 1
  | .slice elems spare => uptoBulkAll elems + uptoBulkAll spare + 1
  | .agg parts => uptoBulkAll parts + 1
  | .iface _ d => uptoBulk d + 1
  | .map entries => uptoBulkEntries entries + 1
  | .held _ => 1
def uptoBulkAll {H : Type} : List (DataW H) → Nat
  | [] => 0
  | d :: r => uptoBulk d + uptoBulkAll r
def uptoBulkEntries {H : Type} : List (Lit × DataW H) → Nat
  | [] => 0
  | x :: r => uptoBulkEntry x + uptoBulkEntries r
def uptoBulkEntry {H : Type} : Lit × DataW H → Nat
  | (.string bytes, d) => bytes.length + uptoBulk d + 1
  | (_, d) => uptoBulk d + 1
 end
def uptoSmall : (H : Type) → List (DataW H) → Bool := fun _ ds => decide (uptoBulkAll ds ≤ 1048576)
def OpenSpec.upto (s : _root_.Go.ChangeSpec) : _root_.Go.OpenSpec := { _root_.Go.OpenSpec.ofChange s with cond := some uptoSmall }

/-- 'phosphorlaw9.PngFiles', WHERE WHAT IT READS IS OF BULK AT MOST 1048576: true; the input reads as it did. -/
def pngFilesUptoRow : OpenClaim := { program := "ytmagnpcgpinmcaagreat", sum := "e10013a9cca70d9d4f9b1bcdca9106fd5f79f713021a1bb86d3108ea1432cf1e", func := "phosphor/phosphorlaw9.PngFiles", spec := "pngFiles", unfollowed := true, recurses := true, apart := false, narrowed := true }
def PngFilesUptoSaid : Prop := pngFilesUptoRow.holds Tryz.pinned (OpenSpec.upto pngFilesSpec)

/-- 'phosphorlaw9.PngChunks', WHERE WHAT IT READS IS OF BULK AT MOST 1048576: true; the input reads as it did. -/
def pngChunksUptoRow : OpenClaim := { program := "ytmagnpcgpinmcaagreat", sum := "e10013a9cca70d9d4f9b1bcdca9106fd5f79f713021a1bb86d3108ea1432cf1e", func := "phosphor/phosphorlaw9.PngChunks", spec := "pngChunks", unfollowed := true, recurses := true, apart := false, narrowed := true }
def PngChunksUptoSaid : Prop := pngChunksUptoRow.holds Tryz.pinned (OpenSpec.upto pngChunksSpec)

/-- 'phosphorlaw9.PngHeads', WHERE WHAT IT READS IS OF BULK AT MOST 1048576: true; the input reads as it did. -/
def pngHeadsUptoRow : OpenClaim := { program := "ytmagnpcgpinmcaagreat", sum := "e10013a9cca70d9d4f9b1bcdca9106fd5f79f713021a1bb86d3108ea1432cf1e", func := "phosphor/phosphorlaw9.PngHeads", spec := "pngHeads", unfollowed := true, recurses := true, apart := false, narrowed := true }
def PngHeadsUptoSaid : Prop := pngHeadsUptoRow.holds Tryz.pinned (OpenSpec.upto pngHeadsSpec)

/-- 'phosphorlaw9.PngBack', WHERE WHAT IT READS IS OF BULK AT MOST 1048576: true; the input reads as it did. -/
def pngBackUptoRow : OpenClaim := { program := "ytmagnpcgpinmcaagreat", sum := "e10013a9cca70d9d4f9b1bcdca9106fd5f79f713021a1bb86d3108ea1432cf1e", func := "phosphor/phosphorlaw9.PngBack", spec := "pngBack", unfollowed := true, recurses := true, apart := false, narrowed := true }
def PngBackUptoSaid : Prop := pngBackUptoRow.holds Tryz.pinned (OpenSpec.upto pngBackSpec)

/-- 'phosphorlaw9.PngSums', WHERE WHAT IT READS IS OF BULK AT MOST 1048576: true; the input reads as it did. -/
def pngSumsUptoRow : OpenClaim := { program := "ytmagnpcgpinmcaagreat", sum := "e10013a9cca70d9d4f9b1bcdca9106fd5f79f713021a1bb86d3108ea1432cf1e", func := "phosphor/phosphorlaw9.PngSums", spec := "pngSums", unfollowed := true, recurses := true, apart := false, narrowed := true }
def PngSumsUptoSaid : Prop := pngSumsUptoRow.holds Tryz.pinned (OpenSpec.upto pngSumsSpec)

/-- 'phosphorlaw9.PngOrders', WHERE WHAT IT READS IS OF BULK AT MOST 1048576: true; the input reads as it did. -/
def pngOrdersUptoRow : OpenClaim := { program := "ytmagnpcgpinmcaagreat", sum := "e10013a9cca70d9d4f9b1bcdca9106fd5f79f713021a1bb86d3108ea1432cf1e", func := "phosphor/phosphorlaw9.PngOrders", spec := "pngOrders", unfollowed := true, recurses := true, apart := false, narrowed := true }
def PngOrdersUptoSaid : Prop := pngOrdersUptoRow.holds Tryz.pinned (OpenSpec.upto pngOrdersSpec)

/-- 'phosphorlaw20.LoadPlays', WHERE WHAT IT READS IS OF BULK AT MOST 1048576: true; the input reads as it did. -/
def loadPlaysUptoRow : OpenClaim := { program := "ytmagnpcgpinmcaagreat", sum := "e10013a9cca70d9d4f9b1bcdca9106fd5f79f713021a1bb86d3108ea1432cf1e", func := "phosphor/phosphorlaw20.LoadPlays", spec := "loadPlays", inPlace := ["internal/bytealg.IndexByteString"], unfollowed := true, recurses := true, apart := false, narrowed := true }
def LoadPlaysUptoSaid : Prop := loadPlaysUptoRow.holds Tryz.pinned (OpenSpec.upto loadPlaysSpec)

/-- 'phosphorlaw20.LoadCuts', WHERE WHAT IT READS IS OF BULK AT MOST 1048576: true; the input reads as it did. -/
def loadCutsUptoRow : OpenClaim := { program := "ytmagnpcgpinmcaagreat", sum := "e10013a9cca70d9d4f9b1bcdca9106fd5f79f713021a1bb86d3108ea1432cf1e", func := "phosphor/phosphorlaw20.LoadCuts", spec := "loadCuts", inPlace := ["internal/bytealg.IndexByteString"], unfollowed := true, recurses := true, apart := false, narrowed := true }
def LoadCutsUptoSaid : Prop := loadCutsUptoRow.holds Tryz.pinned (OpenSpec.upto loadCutsSpec)

/-- 'phosphorlaw20.LoadRooms', WHERE WHAT IT READS IS OF BULK AT MOST 1048576: true; the input reads as it did. -/
def loadRoomsUptoRow : OpenClaim := { program := "ytmagnpcgpinmcaagreat", sum := "e10013a9cca70d9d4f9b1bcdca9106fd5f79f713021a1bb86d3108ea1432cf1e", func := "phosphor/phosphorlaw20.LoadRooms", spec := "loadRooms", inPlace := ["internal/bytealg.IndexByteString"], unfollowed := true, recurses := true, apart := false, narrowed := true }
def LoadRoomsUptoSaid : Prop := loadRoomsUptoRow.holds Tryz.pinned (OpenSpec.upto loadRoomsSpec)

/-- 'phosphorlaw20.LoadImages', WHERE WHAT IT READS IS OF BULK AT MOST 1048576: true; the input reads as it did. -/
def loadImagesUptoRow : OpenClaim := { program := "ytmagnpcgpinmcaagreat", sum := "e10013a9cca70d9d4f9b1bcdca9106fd5f79f713021a1bb86d3108ea1432cf1e", func := "phosphor/phosphorlaw20.LoadImages", spec := "loadImages", inPlace := ["internal/bytealg.IndexByteString"], unfollowed := true, recurses := true, apart := false, narrowed := true }
def LoadImagesUptoSaid : Prop := loadImagesUptoRow.holds Tryz.pinned (OpenSpec.upto loadImagesSpec)

end Rows
end Go.Proofs.YtmagnpcgpinmcaaGreat
