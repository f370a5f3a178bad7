/- By program (gen2.py): elements of rows, slice types. -/
import Derived.Test.YtpadlibcalomnaaMem
import Derived.Test.YtpadlibcalomnaaDefs
set_option maxRecDepth 100000
namespace Go.Proofs.Ytpadlibcalomnaa
open Go.Vc Go.RowKit

def E_int : El Int where
  cells x := [(.int .i64 x)]
  t := ty_int
  k := 1
  pos := by decide
  len _ := rfl
  one x v hv := by
    simp only [List.mem_cons, List.mem_nil_iff, or_false] at hv
    rcases hv with rfl <;> rfl

noncomputable def sT_sl_int : SlT PG E_int ty_sl_int where
  ht := by kernel_rfl
  i := (PG.info? 3).getD default
  hi := by kernel_rfl
  z := (.int .i64 0)
  hz := by kernel_rfl
  hs := by kernel_rfl
  hzs := rfl
theorem by_sl_int : sT_sl_int.i.bytes = 8 := by kernel_rfl

def E_bool : El Bool where
  cells x := [(.bool x)]
  t := ty_bool
  k := 1
  pos := by decide
  len _ := rfl
  one x v hv := by
    simp only [List.mem_cons, List.mem_nil_iff, or_false] at hv
    rcases hv with rfl <;> rfl

noncomputable def sT_sl_bool : SlT PG E_bool ty_sl_bool where
  ht := by kernel_rfl
  i := (PG.info? 4).getD default
  hi := by kernel_rfl
  z := (.bool false)
  hz := by kernel_rfl
  hs := by kernel_rfl
  hzs := rfl
theorem by_sl_bool : sT_sl_bool.i.bytes = 1 := by kernel_rfl

end Go.Proofs.Ytpadlibcalomnaa
