/- Arguments opened: ints, acts of three ints. -/
import Derived.Test.YtpadlibcalomnaaFrame
import Derived.Test.YtpadlibcalomnaaTb6
import Derived.DataShut
import Derived.Lay
import Derived.MakeChecks
import Derived.LaidMore
import Derived.Stop.Joined
set_option linter.unusedVariables false
namespace Go.Proofs.Ytpadlibcalomnaa
open Go.Vc Go.ChangeShapes Go.WideShapes Go.ChangeAt Go.RowKit
set_option maxRecDepth 100000
theorem own : ownKnob Try.prog.godebug = none := by kernel_rfl
theorem laidOut : laidOutB Try.prog = true := by kernel_rfl
theorem leaf_int {ls : List Leaf} {vs : List Value} {k : IntKind} (h : LeafFit ls vs) (j : Nat) (hj : ls[j]? = some (.int k)) : ∃ z, vs[j]? = some (.int k z) ∧ (Lit.int k z).wf = true := by
  obtain ⟨v, hv, z, rfl, hw⟩ := h j _ hj
  exact ⟨z, hv, hw⟩
theorem list_of_get {vs us : List Value} (hl : vs.length = us.length) (h : ∀ (j : Nat), j < us.length → us[j]? = vs[j]?) : us = vs :=
  List.ext_getElem? fun j => by
    rcases Nat.lt_or_ge j us.length with hj | hj
    · exact h j hj
    · rw [List.getElem?_eq_none hj, List.getElem?_eq_none (by omega)]
theorem i64_wf {z : Int} (h : (Lit.int .i64 z).wf = true) : -9223372036854775808 ≤ z ∧ z ≤ 9223372036854775807 := (Lit.wf_int_iff _ _).1 h
def intLs : List Leaf := [.int .i64]
theorem int_leaves : leavesL Try.prog 4 ty_int = some intLs := by kernel_rfl
theorem int_mk (vs : List Value) (hl : vs.length = 1) (h : LeafFit intLs vs) : ∃ x : Int, E_int.cells x = vs ∧ (-9223372036854775808 ≤ x ∧ x ≤ 9223372036854775807) := by
  obtain ⟨z, h0, w0⟩ := leaf_int h 0 rfl
  refine ⟨z, list_of_get hl fun j hj => ?_, i64_wf w0⟩
  match j, hj with
  | 0, _ => exact h0.symm
  | j + 1, hj => exact absurd hj (by simp [E_int])
def actLs : List Leaf := [.int .i64, .int .i64, .int .i64]
theorem act_leaves : leavesL Try.prog 4 ty_phosphorlaw15_Act = some actLs := by kernel_rfl
theorem act_mk (vs : List Value) (hl : vs.length = 3) (h : LeafFit actLs vs) : ∃ x : T_phosphorlaw15_Act, actT.cells x = vs ∧ x.N ≤ 9223372036854775807 := by
  obtain ⟨z0, h0, w0⟩ := leaf_int h 0 rfl
  obtain ⟨z1, h1, w1⟩ := leaf_int h 1 rfl
  obtain ⟨z2, h2, w2⟩ := leaf_int h 2 rfl
  refine ⟨⟨z0, z1, z2⟩, list_of_get hl fun j hj => ?_, (i64_wf w2).2⟩
  match j, hj with
  | 0, _ => exact h0.symm
  | 1, _ => exact h1.symm
  | 2, _ => exact h2.symm
  | j + 3, hj => exact absurd hj (by simp [actT, T_phosphorlaw15_Act.rep])
section
variable {H : Type} {enc : TypeId × Value → H} {w : World} {base : Nat} {held : Bool} {r : Reach} {b0 : Nat} {v : Value} {d : DataW H} {p : List MemPlace}
theorem open_ints {t : TypeId} (ht : Try.prog.underlying t = some (.slice ty_int)) (hv : Value.okWide Try.prog w r b0 t v) (h : DataW.Trod enc Try.prog w base (fun _ => true) held t v d p) : ∃ (s : Slc) (xs : List Int), v = .slice s.a s.n s.c ∧ Rd E_int w s xs ∧ ∀ x ∈ xs, (-9223372036854775808 ≤ x ∧ x ≤ 9223372036854775807) := by
  have a := @rd_of_trod H enc Try.prog w base held Int E_int (fun x => -9223372036854775808 ≤ x ∧ x ≤ 9223372036854775807) r b0 4 t ty_int intLs v d p ht (by kernel_rfl) int_leaves int_mk
  exact a hv h
theorem open_acts {t : TypeId} (ht : Try.prog.underlying t = some (.slice ty_phosphorlaw15_Act)) (hv : Value.okWide Try.prog w r b0 t v) (h : DataW.Trod enc Try.prog w base (fun _ => true) held t v d p) : ∃ (s : Slc) (xs : List T_phosphorlaw15_Act), v = .slice s.a s.n s.c ∧ Rd actT w s xs ∧ ∀ x ∈ xs, x.N ≤ 9223372036854775807 := by
  have a := @rd_of_trod H enc Try.prog w base held T_phosphorlaw15_Act actT (fun x => x.N ≤ 9223372036854775807) r b0 4 t ty_phosphorlaw15_Act actLs v d p ht (by kernel_rfl) act_leaves act_mk
  exact a hv h
end
end Go.Proofs.Ytpadlibcalomnaa
