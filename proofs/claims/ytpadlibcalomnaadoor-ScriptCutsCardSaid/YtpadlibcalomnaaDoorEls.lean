/- By program (gen2.py): elements of rows, slice types. -/
import Derived.Test.YtpadlibcalomnaaDoorMem
import Derived.Test.YtpadlibcalomnaaDoorDefs
set_option maxRecDepth 100000
namespace Go.Proofs.YtpadlibcalomnaaDoor
open Go.Vc Go.RowKit

def E_uint8 : El UInt8 where
  cells b := [.int .u8 b.toNat]
  t := ty_uint8
  k := 1
  pos := by decide
  len _ := rfl
  one x v hv := by
    simp only [List.mem_cons, List.mem_nil_iff, or_false] at hv
    rcases hv with rfl <;> rfl

noncomputable def sT_sl_uint8 : SlT PG E_uint8 ty_sl_uint8 where
  ht := by kernel_rfl
  i := (PG.info? 5).getD default
  hi := by kernel_rfl
  z := (.int .u8 0)
  hz := by kernel_rfl
  hs := by kernel_rfl
  hzs := rfl
theorem by_sl_uint8 : sT_sl_uint8.i.bytes = 1 := by kernel_rfl

def E_script_Item : El T_script_Item where
  cells := T_script_Item.rep.cells
  t := ty_script_Item
  k := 4
  pos := by decide
  len _ := rfl
  one x v hv := by
    simp only [T_script_Item.rep, List.mem_cons, List.mem_nil_iff, or_false] at hv
    rcases hv with rfl | rfl | rfl | rfl <;> rfl

noncomputable def sT_sl_script_Item : SlT PG E_script_Item ty_sl_script_Item where
  ht := by kernel_rfl
  i := (PG.info? 79).getD default
  hi := by kernel_rfl
  z := (.agg #[(.slice none 0 0), (.bool false), (.int .i64 0), (.int .i64 0)])
  hz := by kernel_rfl
  hs := by kernel_rfl
  hzs := rfl
theorem by_sl_script_Item : sT_sl_script_Item.i.bytes = 48 := by kernel_rfl

def E_phosphorref26_Item : El T_script_Item where
  cells := T_script_Item.rep.cells
  t := ty_phosphorref26_Item
  k := 4
  pos := by decide
  len _ := rfl
  one x v hv := by
    simp only [T_script_Item.rep, List.mem_cons, List.mem_nil_iff, or_false] at hv
    rcases hv with rfl | rfl | rfl | rfl <;> rfl

noncomputable def sT_sl_phosphorref26_Item : SlT PG E_phosphorref26_Item ty_sl_phosphorref26_Item where
  ht := by kernel_rfl
  i := (PG.info? 96).getD default
  hi := by kernel_rfl
  z := (.agg #[(.slice none 0 0), (.bool false), (.int .i64 0), (.int .i64 0)])
  hz := by kernel_rfl
  hs := by kernel_rfl
  hzs := rfl
theorem by_sl_phosphorref26_Item : sT_sl_phosphorref26_Item.i.bytes = 48 := by kernel_rfl

def E_string : El ByteArray where
  cells x := [(.string x)]
  t := ty_string
  k := 1
  pos := by decide
  len _ := rfl
  one x v hv := by
    simp only [List.mem_cons, List.mem_nil_iff, or_false] at hv
    rcases hv with rfl <;> rfl

noncomputable def sT_sl_string : SlT PG E_string ty_sl_string where
  ht := by kernel_rfl
  i := (PG.info? 9).getD default
  hi := by kernel_rfl
  z := (.string (⟨#[]⟩ : ByteArray))
  hz := by kernel_rfl
  hs := by kernel_rfl
  hzs := rfl
theorem by_sl_string : sT_sl_string.i.bytes = 16 := by kernel_rfl

end Go.Proofs.YtpadlibcalomnaaDoor
