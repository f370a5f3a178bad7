/- The arguments of this seat's laws opened: lines of cells, looks, acts; the world that lays the listed tables. -/
import Derived.Test.YtgejghejnibocaaDoorFrame
import Derived.Test.YtgejghejnibocaaDoorL1
import Derived.Test.YtgejghejnibocaaDoorRows
import Derived.DataShut
import Derived.Lay
import Derived.MakeChecks
import Derived.LaidMore
import Derived.Stop.Joined
namespace Go.Proofs.YtgejghejnibocaaDoor
open Go.Vc Go.ChangeShapes Go.WideShapes Go.ChangeAt Go.RowKit
set_option maxRecDepth 100000

noncomputable def fieldsOf (P : Program) (t : TypeId) : Array Field := match P.underlying t with | some (.struct fs) => fs | _ => #[]

theorem own : ownKnob Tryd.prog.godebug = none := by kernel_rfl
theorem laidOut : laidOutB Tryd.prog = true := by kernel_rfl

def attrE : El T_api_Attr where
  cells := T_api_Attr.rep.cells
  t := 23
  k := 3
  pos := by decide
  len _ := rfl
  one x v hv := by
    simp only [T_api_Attr.rep, List.mem_cons, List.mem_nil_iff, or_false] at hv
    rcases hv with rfl | rfl | rfl <;> rfl

theorem leaf_int {ls : List Leaf} {vs : List Value} {k : IntKind} (h : LeafFit ls vs) (j : Nat) (hj : ls[j]? = some (.int k)) : ∃ z, vs[j]? = some (.int k z) ∧ (Lit.int k z).wf = true := by
  obtain ⟨v, hv, z, rfl, hw⟩ := h j _ hj
  exact ⟨z, hv, hw⟩
theorem list_of_get {vs us : List Value} (hl : vs.length = us.length) (h : ∀ (j : Nat), j < us.length → us[j]? = vs[j]?) : us = vs :=
  List.ext_getElem? fun j => by
    rcases Nat.lt_or_ge j us.length with hj | hj
    · exact h j hj
    · rw [List.getElem?_eq_none hj, List.getElem?_eq_none (by omega)]

def cellLs : List Leaf := [.int .i32, .int .i64, .int .i64, .int .i64, .int .i64]
def attrLs : List Leaf := [.int .i64, .int .i64, .int .i64]
theorem cell_leaves : leavesL Tryd.prog 4 42 = some cellLs := by kernel_rfl
theorem attr_leaves : leavesL Tryd.prog 4 23 = some attrLs := by kernel_rfl
/-- A cell's numbers fit their kinds. -/
def cellQ (c : Cell) : Prop := -2147483648 ≤ c.R ∧ c.R ≤ 2147483647
theorem cell_mk (vs : List Value) (hl : vs.length = 5) (h : LeafFit cellLs vs) : ∃ x : Cell, cellE.cells x = vs ∧ cellQ x := by
  obtain ⟨r, h0, w0⟩ := leaf_int h 0 rfl
  obtain ⟨k, h1, _⟩ := leaf_int h 1 rfl
  obtain ⟨f, h2, _⟩ := leaf_int h 2 rfl
  obtain ⟨b, h3, _⟩ := leaf_int h 3 rfl
  obtain ⟨g, h4, _⟩ := leaf_int h 4 rfl
  have hw := (Lit.wf_int_iff _ _).1 w0
  refine ⟨⟨r, k, f, b, g⟩, list_of_get hl fun j hj => ?_, hw.1, hw.2⟩
  match j, hj with
  | 0, _ => exact h0.symm
  | 1, _ => exact h1.symm
  | 2, _ => exact h2.symm
  | 3, _ => exact h3.symm
  | 4, _ => exact h4.symm
  | j + 5, hj => exact absurd hj (by simp [cellE, T_api_Cell.rep])
theorem attr_mk (vs : List Value) (hl : vs.length = 3) (h : LeafFit attrLs vs) : ∃ x : Attr, attrE.cells x = vs ∧ True := by
  obtain ⟨f, h2, _⟩ := leaf_int h 0 rfl
  obtain ⟨b, h3, _⟩ := leaf_int h 1 rfl
  obtain ⟨g, h4, _⟩ := leaf_int h 2 rfl
  refine ⟨⟨f, b, g⟩, list_of_get hl fun j hj => ?_, trivial⟩
  match j, hj with
  | 0, _ => exact h2.symm
  | 1, _ => exact h3.symm
  | 2, _ => exact h4.symm
  | j + 3, hj => exact absurd hj (by simp [attrE, T_api_Attr.rep])

section
variable {H : Type} {enc : TypeId × Value → H} {w : World} {base : Nat} {held : Bool} {r : Reach} {b0 : Nat} {v : Value} {d : DataW H} {p : List MemPlace}
theorem open_line {t : TypeId} (ht : Tryd.prog.underlying t = some (.slice 42)) (hv : Value.okWide Tryd.prog w r b0 t v) (h : DataW.Trod enc Tryd.prog w base (fun _ => true) held t v d p) : ∃ (s : Slc) (xs : List Cell), v = .slice s.a s.n s.c ∧ Rd cellE w s xs ∧ ∀ x ∈ xs, cellQ x := by
  have a := @rd_of_trod H enc Tryd.prog w base held Cell cellE cellQ r b0 4 t 42 cellLs v d p ht (by kernel_rfl) cell_leaves cell_mk
  exact a hv h
theorem open_attr (hv : Value.okWide Tryd.prog w r b0 23 v) (h : DataW.Trod enc Tryd.prog w base (fun _ => true) held 23 v d p) : ∃ x : Attr, v = .agg #[.int .i64 x.Fg, .int .i64 x.Bg, .int .i64 x.Flags] := by
  have hfs : Tryd.prog.underlying 23 = some (.struct (fieldsOf Tryd.prog 23)) := by kernel_rfl
  have a := @agg_of_trod H enc Tryd.prog w base (fun _ => true) held T_api_Attr attrE (fun _ => True) r b0 4 23 (fieldsOf Tryd.prog 23) attrLs v d p hfs (by kernel_rfl) attr_leaves attr_mk
  obtain ⟨x, e, _⟩ := a hv h
  exact ⟨x, e⟩
end

/-! ### The world that lays the listed tables -/
def tabs : List (String × DataW Unit) := [("unicode/utf8.acceptRanges", Rows.laid_unicode_utf8_acceptRanges), ("unicode/utf8.first", Rows.laid_unicode_utf8_first)]
theorem tabs_shaped (os : Os) : (World.laidAll Tryd.prog os tabs).Shaped Tryd.prog := World.shaped_of_ZipB (by kernel_rfl) (by kernel_rfl)
theorem tabs_met (os : Os) (args : Array Value) : laidMetH Tryd.prog tabs ((World.laidAll Tryd.prog os tabs).forCall (fun _ _ => 0) ⟨#[], args, []⟩).memory := by
  rw [MakeChecks.laidMetH_plain _ _ _ (by kernel_rfl)]
  exact laidMet_laidAll _ (by kernel_rfl) (by kernel_rfl)

end Go.Proofs.YtgejghejnibocaaDoor
