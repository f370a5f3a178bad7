/- Arguments opened: bytes. -/
import Derived.Test.YteffnkpplhcomaaFrame
import Derived.Test.YteffnkpplhcomaaEls
import Derived.DataShut
import Derived.Lay
import Derived.MakeChecks
import Derived.LaidMore
import Derived.Stop.Joined
namespace Go.Proofs.Yteffnkpplhcomaa
open Go.Vc Go.ChangeShapes Go.WideShapes Go.ChangeAt Go.RowKit
set_option maxRecDepth 100000
theorem own : ownKnob Try.prog.godebug = none := by kernel_rfl
theorem laidOut : laidOutB Try.prog = true := by kernel_rfl
theorem leaf_int {ls : List Leaf} {vs : List Value} {k : IntKind} (h : LeafFit ls vs) (j : Nat) (hj : ls[j]? = some (.int k)) : ∃ z, vs[j]? = some (.int k z) ∧ (Lit.int k z).wf = true := by
  obtain ⟨v, hv, z, rfl, hw⟩ := h j _ hj
  exact ⟨z, hv, hw⟩
theorem list_of_get {vs us : List Value} (hl : vs.length = us.length) (h : ∀ (j : Nat), j < us.length → us[j]? = vs[j]?) : us = vs :=
  List.ext_getElem? fun j => by
    rcases Nat.lt_or_ge j us.length with hj | hj
    · exact h j hj
    · rw [List.getElem?_eq_none hj, List.getElem?_eq_none (by omega)]
def byteLs : List Leaf := [.int .u8]
theorem byte_leaves : leavesL Try.prog 4 5 = some byteLs := by kernel_rfl
theorem byte_mk (vs : List Value) (hl : vs.length = 1) (h : LeafFit byteLs vs) : ∃ x : UInt8, E_uint8.cells x = vs ∧ True := by
  obtain ⟨z, h0, w0⟩ := leaf_int h 0 rfl
  have hw := (Lit.wf_int_iff _ _).1 w0
  rw [IntKind.min_u8, show IntKind.u8.max = 255 from rfl] at hw
  refine ⟨u8 z, list_of_get hl fun j hj => ?_, trivial⟩
  match j, hj with
  | 0, _ =>
    show some (Value.int .u8 ((u8 z).toNat : Int)) = _
    rw [u8_toNat hw.1 (by omega)]
    exact h0.symm
  | j + 1, hj => exact absurd hj (by simp [E_uint8])
section
variable {H : Type} {enc : TypeId × Value → H} {w : World} {base : Nat} {held : Bool} {r : Reach} {b0 : Nat} {v : Value} {d : DataW H} {p : List MemPlace}
theorem open_bytes {t : TypeId} (ht : Try.prog.underlying t = some (.slice 5)) (hv : Value.okWide Try.prog w r b0 t v) (h : DataW.Trod enc Try.prog w base (fun _ => true) held t v d p) : ∃ (s : Slc) (xs : List UInt8), v = .slice s.a s.n s.c ∧ Rd E_uint8 w s xs ∧ ∀ x ∈ xs, True := by
  have a := @rd_of_trod H enc Try.prog w base held UInt8 E_uint8 (fun _ => True) r b0 4 t 5 byteLs v d p ht (by kernel_rfl) byte_leaves byte_mk
  exact a hv h
end
end Go.Proofs.Yteffnkpplhcomaa
