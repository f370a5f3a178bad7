/- By program (gen2.py): elements of rows, slice types. -/
import Derived.Test.YteffnkpplhcomaaMem
import Derived.Test.YteffnkpplhcomaaDefs
set_option maxRecDepth 100000
namespace Go.Proofs.Yteffnkpplhcomaa
open Go.Vc Go.RowKit

def E_uint8 : El UInt8 where
  cells b := [.int .u8 b.toNat]
  t := ty_uint8
  k := 1
  pos := by decide
  len _ := rfl
  one x v hv := by
    simp only [List.mem_cons, List.mem_nil_iff, or_false] at hv
    rcases hv with rfl <;> rfl

noncomputable def sT_sl_uint8 : SlT PG E_uint8 ty_sl_uint8 where
  ht := by kernel_rfl
  i := (PG.info? 5).getD default
  hi := by kernel_rfl
  z := (.int .u8 0)
  hz := by kernel_rfl
  hs := by kernel_rfl
  hzs := rfl
theorem by_sl_uint8 : sT_sl_uint8.i.bytes = 1 := by kernel_rfl

def E_int : El Int where
  cells x := [(.int .i64 x)]
  t := ty_int
  k := 1
  pos := by decide
  len _ := rfl
  one x v hv := by
    simp only [List.mem_cons, List.mem_nil_iff, or_false] at hv
    rcases hv with rfl <;> rfl

noncomputable def sT_sl_int : SlT PG E_int ty_sl_int where
  ht := by kernel_rfl
  i := (PG.info? 3).getD default
  hi := by kernel_rfl
  z := (.int .i64 0)
  hz := by kernel_rfl
  hs := by kernel_rfl
  hzs := rfl
theorem by_sl_int : sT_sl_int.i.bytes = 8 := by kernel_rfl

def E_phosphorref21_Image : El T_phosphorref21_Image where
  cells := T_phosphorref21_Image.rep.cells
  t := ty_phosphorref21_Image
  k := 7
  pos := by decide
  len _ := rfl
  one x v hv := by
    simp only [T_phosphorref21_Image.rep, List.mem_cons, List.mem_nil_iff, or_false] at hv
    rcases hv with rfl | rfl | rfl | rfl | rfl | rfl | rfl <;> rfl

noncomputable def sT_sl_phosphorref21_Image : SlT PG E_phosphorref21_Image ty_sl_phosphorref21_Image where
  ht := by kernel_rfl
  i := (PG.info? 122).getD default
  hi := by kernel_rfl
  z := (.agg #[(.int .i64 0), (.int .i64 0), (.int .i64 0), (.int .i64 0), (.slice none 0 0), (.int .i64 0), (.int .i64 0)])
  hz := by kernel_rfl
  hs := by kernel_rfl
  hzs := rfl
theorem by_sl_phosphorref21_Image : sT_sl_phosphorref21_Image.i.bytes = 72 := by kernel_rfl

def E_uint32 : El Int where
  cells x := [(.int .u32 x)]
  t := ty_uint32
  k := 1
  pos := by decide
  len _ := rfl
  one x v hv := by
    simp only [List.mem_cons, List.mem_nil_iff, or_false] at hv
    rcases hv with rfl <;> rfl

noncomputable def sT_sl_uint32 : SlT PG E_uint32 ty_sl_uint32 where
  ht := by kernel_rfl
  i := (PG.info? 101).getD default
  hi := by kernel_rfl
  z := (.int .u32 0)
  hz := by kernel_rfl
  hs := by kernel_rfl
  hzs := rfl
theorem by_sl_uint32 : sT_sl_uint32.i.bytes = 4 := by kernel_rfl

end Go.Proofs.Yteffnkpplhcomaa
