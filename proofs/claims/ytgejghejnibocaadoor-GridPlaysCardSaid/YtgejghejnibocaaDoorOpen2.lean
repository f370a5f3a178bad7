/- Further arguments of this seat's laws opened: bytes, acts. -/
import Derived.Test.YtgejghejnibocaaDoorOpen
import Derived.Test.YtgejghejnibocaaDoorT1
namespace Go.Proofs.YtgejghejnibocaaDoor
open Go.Vc Go.ChangeShapes Go.WideShapes Go.ChangeAt Go.RowKit
set_option maxRecDepth 100000

def byteLs : List Leaf := [.int .u8]
theorem byte_leaves : leavesL Tryd.prog 4 5 = some byteLs := by kernel_rfl
theorem byte_mk (vs : List Value) (hl : vs.length = 1) (h : LeafFit byteLs vs) : ∃ x : UInt8, byteE.cells x = vs ∧ True := by
  obtain ⟨z, h0, w0⟩ := leaf_int h 0 rfl
  have hw := (Lit.wf_int_iff _ _).1 w0
  rw [IntKind.min_u8, show IntKind.u8.max = 255 from rfl] at hw
  refine ⟨u8 z, list_of_get hl fun j hj => ?_, trivial⟩
  match j, hj with
  | 0, _ =>
    show some (Value.int .u8 ((u8 z).toNat : Int)) = _
    rw [u8_toNat hw.1 (by omega)]
    exact h0.symm
  | j + 1, hj => exact absurd hj (by simp [byteE])

def actE : El T_phosphorlaw13_Act where
  cells := T_phosphorlaw13_Act.rep.cells
  t := 54
  k := 8
  pos := by decide
  len _ := rfl
  one x v hv := by
    simp only [T_phosphorlaw13_Act.rep, List.mem_cons, List.mem_nil_iff, or_false] at hv
    rcases hv with rfl | rfl | rfl | rfl | rfl | rfl | rfl | rfl <;> rfl
def actLs : List Leaf := [.int .i64, .int .i64, .int .i64, .int .i32, .int .i64, .int .i64, .int .i64, .int .i64]
theorem act_leaves : leavesL Tryd.prog 4 54 = some actLs := by kernel_rfl
def actQ (c : T_phosphorlaw13_Act) : Prop := -2147483648 ≤ c.R ∧ c.R ≤ 2147483647
theorem act_mk (vs : List Value) (hl : vs.length = 8) (h : LeafFit actLs vs) : ∃ x : T_phosphorlaw13_Act, actE.cells x = vs ∧ actQ x := by
  obtain ⟨z0, h0, _⟩ := leaf_int h 0 rfl
  obtain ⟨z1, h1, _⟩ := leaf_int h 1 rfl
  obtain ⟨z2, h2, _⟩ := leaf_int h 2 rfl
  obtain ⟨z3, h3, w3⟩ := leaf_int h 3 rfl
  obtain ⟨z4, h4, _⟩ := leaf_int h 4 rfl
  obtain ⟨z5, h5, _⟩ := leaf_int h 5 rfl
  obtain ⟨z6, h6, _⟩ := leaf_int h 6 rfl
  obtain ⟨z7, h7, _⟩ := leaf_int h 7 rfl
  have hw := (Lit.wf_int_iff _ _).1 w3
  refine ⟨⟨z0, z1, z2, z3, z4, z5, z6, z7⟩, list_of_get hl fun j hj => ?_, hw.1, hw.2⟩
  match j, hj with
  | 0, _ => exact h0.symm
  | 1, _ => exact h1.symm
  | 2, _ => exact h2.symm
  | 3, _ => exact h3.symm
  | 4, _ => exact h4.symm
  | 5, _ => exact h5.symm
  | 6, _ => exact h6.symm
  | 7, _ => exact h7.symm
  | j + 8, hj => exact absurd hj (by simp [actE, T_phosphorlaw13_Act.rep])

section
variable {H : Type} {enc : TypeId × Value → H} {w : World} {base : Nat} {held : Bool} {r : Reach} {b0 : Nat} {v : Value} {d : DataW H} {p : List MemPlace}
theorem open_bytes {t : TypeId} (ht : Tryd.prog.underlying t = some (.slice 5)) (hv : Value.okWide Tryd.prog w r b0 t v) (h : DataW.Trod enc Tryd.prog w base (fun _ => true) held t v d p) : ∃ (s : Slc) (xs : List UInt8), v = .slice s.a s.n s.c ∧ Rd byteE w s xs ∧ ∀ x ∈ xs, True := by
  have a := @rd_of_trod H enc Tryd.prog w base held UInt8 byteE (fun _ => True) r b0 4 t 5 byteLs v d p ht (by kernel_rfl) byte_leaves byte_mk
  exact a hv h
theorem open_acts {t : TypeId} (ht : Tryd.prog.underlying t = some (.slice 54)) (hv : Value.okWide Tryd.prog w r b0 t v) (h : DataW.Trod enc Tryd.prog w base (fun _ => true) held t v d p) : ∃ (s : Slc) (xs : List T_phosphorlaw13_Act), v = .slice s.a s.n s.c ∧ Rd actE w s xs ∧ ∀ x ∈ xs, actQ x := by
  have a := @rd_of_trod H enc Tryd.prog w base held T_phosphorlaw13_Act actE actQ r b0 4 t 54 actLs v d p ht (by kernel_rfl) act_leaves act_mk
  exact a hv h
end
end Go.Proofs.YtgejghejnibocaaDoor
