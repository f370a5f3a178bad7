/- The listed tables are as the program's text lays them: the nine facts of the tie one by one, then the row's tie. -/
import Derived.Test.YtlmpnfhmpjldaaaGreatDoorRows
import Derived.LaidByTextLater
import Derived.SevenTiedAt
namespace Go.Proofs.YtlmpnfhmpjldaaaGreatDoor
open Go
theorem YL : Tryz.pinned.checked.prog.pinnedFits "unicode/utf8.first" = true := by kernel_rfl
theorem q6r : Tryz.pinned.checked.prog.headLifts.contains "ownunsafe" = false := by kernel_rfl
theorem znt : Tryz.pinned.checked.prog.listedFits [("internal/strconv.uint64pow10", Rows.laid_internal_strconv_uint64pow10), ("math/bits.deBruijn32tab", Rows.laid_math_bits_deBruijn32tab), ("math/bits.deBruijn64tab", Rows.laid_math_bits_deBruijn64tab), ("unicode/utf8.first", Rows.laid_unicode_utf8_first), ("unicode/utf8.acceptRanges", Rows.laid_unicode_utf8_acceptRanges)] = true := by
 unfold Program.listedFits;rw [q6r];kernel_rfl
abbrev tL : List (String × DataW Unit) := [("internal/strconv.uint64pow10", Rows.laid_internal_strconv_uint64pow10), ("math/bits.deBruijn32tab", Rows.laid_math_bits_deBruijn32tab), ("math/bits.deBruijn64tab", Rows.laid_math_bits_deBruijn64tab), ("unicode/utf8.acceptRanges", Rows.laid_unicode_utf8_acceptRanges)]
theorem znr:Tryz.prog.worded (varsWordLater true)=true:=by kernel_rfl
theorem zmx:Tryz.prog.worded (varsWordLater !true)=false:=by kernel_rfl
theorem znk:Tryz.prog.worded rootWordLater=true:=by kernel_rfl
theorem znw:tL.map (λx=>Tryz.prog.kindOfLater x.1)=(([.data,.data,.data,.data]:List LaidKind)).map some:=by kernel_rfl
theorem zoi : (Tryz.prog.funcNamed "gosem.cut.vars").isSome = true := by kernel_rfl
theorem zm1:varsNamedLaterB Tryz.prog (varsId Tryz.prog) tL=true:=by kernel_rfl
theorem zno (os tape):varsDone Tryz.prog 400 (varsId Tryz.prog) os tape=true:=by kernel_rfl
theorem zn2 (os tape):(DataW.laidRun Tryz.prog (varsWorld Tryz.prog 400 (varsId Tryz.prog) os tape).memory 8 (tL.map (·.1))).map (·.1)=some tL:=by kernel_rfl
theorem znj (os tape):(DataW.laidRun Tryz.prog (varsWorld Tryz.prog 400 (varsId Tryz.prog) os tape).memory 8 (tL.map (·.1))).map (λx=>decide x.2.Nodup && laidRowsB Tryz.prog (varsWorld Tryz.prog 400 (varsId Tryz.prog) os tape).memory x.2)=some true:=by kernel_rfl
theorem tie:Tryz.prog.laidByTextLater tL [.data,.data,.data,.data] true :=
 Program.laidByTextLater_by_run 400 8 znr zmx znk znw zoi zm1 zno zn2 znj
theorem qwm:Rows.termNewRow.laidByTextAt .later Tryz.pinned [.data,.data,.data,.pinned,.data] true :=
 OpenClaim.laidByTextAt_pinned rfl rfl tie rfl rfl rfl rfl (λy hy _e=>by
  simp only [Rows.termNewRow,List.zip_cons_cons,List.zip_nil_right,List.mem_cons,List.mem_nil_iff,or_false] at hy;rcases hy with rfl | rfl | rfl | rfl | rfl
  ·cases _e
  ·cases _e
  ·cases _e
  ·exact ⟨YL,by kernel_rfl⟩
  ·cases _e) znt
end Go.Proofs.YtlmpnfhmpjldaaaGreatDoor
