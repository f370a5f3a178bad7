/- Bytes as strings. -/
import Derived.Test.YteffnkpplhcomaaB1
set_option linter.unusedVariables false
namespace Go.Proofs.Yteffnkpplhcomaa
open Go.Vc Go.RowKit
set_option maxRecDepth 400000

def strB (bs : List UInt8) : ByteArray := ⟨bs.toArray⟩
theorem strB_toList (l : List UInt8) : (strB l).toList = l := by rw [ByteArray.toList_eq]; rfl
theorem run_bytes_strB {w : World} {s : Slc} {bs : List UInt8} (h : Rd E_uint8 w s bs) : (convert ty_sl_uint8 ty_string (.slice s.a s.n s.c)).run PG w = .ok (.string (strB bs)) w := by
  cases ha : s.a with
  | none =>
    have : bs = [] := by
      cases bs with
      | nil => rfl
      | cons x r => have := h.some_ (by simp); rw [ha] at this; cases this
    subst this
    exact run_convert_bytes_nil (P := PG) w ty_sl_uint8 ty_uint8 (by kernel_rfl) (by kernel_rfl) _ _ ty_string (by kernel_rfl)
  | some a =>
    have hn := h.n
    have hl : (loadCells a bs.length).run PG w = .ok ((bs.map fun b => Value.int .u8 b.toNat)).toArray w := by
      have := run_loadCells_list (P := PG) w a (bs.map fun b => Value.int .u8 b.toNat) (fun j v hj => by
        rw [List.getElem?_map] at hj
        cases hb : bs[j]? with
        | none => rw [hb] at hj; cases hj
        | some b =>
          rw [hb] at hj
          cases hj
          have := h.at_ j b hb 0 (.int .u8 b.toNat) rfl
          simp only [Slc.at_, ha, Option.getD_some, add_zero] at this
          rwa [show j * E_uint8.k = j from Nat.mul_one j] at this)
      simpa using this
    have hb := run_bytesToString w a s.n s.c (bs.map fun b => (b.toNat : Int)) (by rw [hn, hl]; simp)
    rw [run_convert_bytes_string w ty_sl_uint8 ty_string ty_uint8 _ s.n s.c (by kernel_rfl) (by kernel_rfl) (by kernel_rfl), hb, foldl_push_bytes]
    have e : (bs.map fun b => (b.toNat : Int)).map (fun n => UInt8.ofNat n.toNat) = bs := by
      rw [List.map_map]
      conv => rhs; rw [← List.map_id bs]
      refine List.map_congr_left fun b _ => ?_
      simp
    rw [e]
    simp [strB, ByteArray.empty, ByteArray.emptyWithCapacity]
    rfl
end Go.Proofs.Yteffnkpplhcomaa
