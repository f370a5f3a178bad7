/- The arguments of the Keys laws opened; the world that lays the listed tables. -/
import Derived.Test.YtpadlibcalomnaaDoorFrame
import Derived.Test.YtpadlibcalomnaaDoorK6
import Derived.Test.YtpadlibcalomnaaDoorRows
import Derived.DataShut
import Derived.Lay
import Derived.MakeChecks
import Derived.LaidMore
import Derived.Stop.Joined
import Derived.Lib.LaidTab
import Derived.ChangeMaps5
set_option linter.unusedVariables false
namespace Go.Proofs.YtpadlibcalomnaaDoor
open Go.Vc Go.ChangeShapes Go.WideShapes Go.ChangeAt Go.RowKit
set_option maxRecDepth 100000

noncomputable def fieldsOf (P : Program) (t : TypeId) : Array Field := match P.underlying t with | some (.struct fs) => fs | _ => #[]
theorem own : ownKnob Tryd.prog.godebug = none := by kernel_rfl
theorem laidOut : laidOutB Tryd.prog = true := by kernel_rfl
theorem leaf_int {ls : List Leaf} {vs : List Value} {k : IntKind} (h : LeafFit ls vs) (j : Nat) (hj : ls[j]? = some (.int k)) : ∃ z, vs[j]? = some (.int k z) ∧ (Lit.int k z).wf = true := by
  obtain ⟨v, hv, z, rfl, hw⟩ := h j _ hj
  exact ⟨z, hv, hw⟩
theorem list_of_get {vs us : List Value} (hl : vs.length = us.length) (h : ∀ (j : Nat), j < us.length → us[j]? = vs[j]?) : us = vs :=
  List.ext_getElem? fun j => by
    rcases Nat.lt_or_ge j us.length with hj | hj
    · exact h j hj
    · rw [List.getElem?_eq_none hj, List.getElem?_eq_none (by omega)]
def byteLs : List Leaf := [.int .u8]
theorem byte_leaves : leavesL Tryd.prog 4 5 = some byteLs := by kernel_rfl
theorem byte_mk (vs : List Value) (hl : vs.length = 1) (h : LeafFit byteLs vs) : ∃ x : UInt8, E_uint8.cells x = vs ∧ True := by
  obtain ⟨z, h0, w0⟩ := leaf_int h 0 rfl
  have hw := (Lit.wf_int_iff _ _).1 w0
  rw [IntKind.min_u8, show IntKind.u8.max = 255 from rfl] at hw
  refine ⟨u8 z, list_of_get hl fun j hj => ?_, trivial⟩
  match j, hj with
  | 0, _ =>
    show some (Value.int .u8 ((u8 z).toNat : Int)) = _
    rw [u8_toNat hw.1 (by omega)]
    exact h0.symm
  | j + 1, hj => exact absurd hj (by simp [E_uint8])
def keysE : El T_keys_Keys where
  cells := T_keys_Keys.rep.cells
  t := ty_keys_Keys
  k := 22
  pos := by decide
  len _ := rfl
  one x v hv := by
    simp only [T_keys_Keys.rep, List.mem_cons, List.mem_nil_iff, or_false] at hv
    rcases hv with rfl | rfl | rfl | rfl | rfl | rfl | rfl | rfl | rfl | rfl | rfl | rfl | rfl | rfl | rfl | rfl | rfl | rfl | rfl | rfl | rfl | rfl <;> rfl
def keysLs : List Leaf := [.int .u8, .int .u8, .int .u8, .int .u8, .int .i64, .int .i64, .int .i64, .int .i64, .int .i64, .int .i64, .int .i64, .int .i64, .int .i64, .int .i64, .int .i64, .int .i64, .int .i64, .int .i64, .int .i64, .int .i64, .int .i64, .int .i64]
theorem keys_leaves : leavesL Tryd.prog 4 ty_keys_Keys = some keysLs := by kernel_rfl
theorem keys_mk (vs : List Value) (hl : vs.length = 22) (h : LeafFit keysLs vs) : ∃ x : T_keys_Keys, keysE.cells x = vs ∧ Bytes4 (toL x) ∧ Wide (toL x) := by
  have hz : ∀ i, i < 22 → ∃ z, vs[i]? = some (cellK i z) ∧ (i < 4 → 0 ≤ z ∧ z < 256) ∧ (-9223372036854775808 ≤ z ∧ z ≤ 9223372036854775807) := by
    intro i hi
    by_cases h4 : i < 4
    · have hk : keysLs[i]? = some (.int .u8) := by
        have : i = 0 ∨ i = 1 ∨ i = 2 ∨ i = 3 := by omega
        rcases this with rfl | rfl | rfl | rfl <;> rfl
      obtain ⟨z, hz, hw⟩ := leaf_int h i hk
      have hw := (Lit.wf_int_iff _ _).1 hw
      rw [IntKind.min_u8, show IntKind.u8.max = 255 from rfl] at hw
      exact ⟨z, by unfold cellK; rw [if_pos h4]; exact hz, fun _ => by omega, by omega⟩
    · have hk : keysLs[i]? = some (.int .i64) := by
        have : i = 4 ∨ i = 5 ∨ i = 6 ∨ i = 7 ∨ i = 8 ∨ i = 9 ∨ i = 10 ∨ i = 11 ∨ i = 12 ∨ i = 13 ∨ i = 14 ∨ i = 15 ∨ i = 16 ∨ i = 17 ∨ i = 18 ∨ i = 19 ∨ i = 20 ∨ i = 21 := by omega
        rcases this with rfl | rfl | rfl | rfl | rfl | rfl | rfl | rfl | rfl | rfl | rfl | rfl | rfl | rfl | rfl | rfl | rfl | rfl <;> rfl
      obtain ⟨z, hz, hw⟩ := leaf_int h i hk
      have hw := (Lit.wf_int_iff _ _).1 hw
      exact ⟨z, by unfold cellK; rw [if_neg h4]; exact hz, fun hh => absurd hh h4, hw⟩
  obtain ⟨zs, hzl, hzs⟩ := list_choose (T := Int) (Q := fun i z => vs[i]? = some (cellK i z) ∧ (i < 4 → 0 ≤ z ∧ z < 256) ∧ (-9223372036854775808 ≤ z ∧ z ≤ 9223372036854775807)) 22 hz
  refine ⟨ofL zs, ?_, ?_, ?_⟩
  · show T_keys_Keys.rep.cells (ofL zs) = vs
    rw [ofL_cells hzl]
    refine list_of_get (by rw [cellsK_len, hzl]; exact hl) fun j hj => ?_
    rw [cellsK_len, hzl] at hj
    rw [cellsK_get hzl hj]
    have := (hzs j zs[j] (by simp [hzl, hj])).1
    rw [this, List.getElem?_eq_getElem (by omega)]
    rfl
  · rw [list22 hzl]
    intro i hi
    have := (hzs i (zs[i]'(by omega)) (List.getElem?_eq_getElem _)).2.1 hi
    rwa [List.getElem?_eq_getElem (by omega)]
  · rw [list22 hzl]
    intro i
    cases hx : zs[i]? with
    | none => show -9223372036854775808 ≤ (0 : Int) ∧ (0 : Int) ≤ 9223372036854775807; omega
    | some z => exact (hzs i z hx).2.2
section
variable {H : Type} {enc : TypeId × Value → H} {w : World} {base : Nat} {held : Bool} {r : Reach} {b0 : Nat} {v : Value} {d : DataW H} {p : List MemPlace}
theorem open_bytes {t : TypeId} (ht : Tryd.prog.underlying t = some (.slice 5)) (hv : Value.okWide Tryd.prog w r b0 t v) (h : DataW.Trod enc Tryd.prog w base (fun _ => true) held t v d p) : ∃ (s : Slc) (xs : List UInt8), v = .slice s.a s.n s.c ∧ Rd E_uint8 w s xs ∧ ∀ x ∈ xs, True := by
  have a := @rd_of_trod H enc Tryd.prog w base held UInt8 E_uint8 (fun _ => True) r b0 4 t 5 byteLs v d p ht (by kernel_rfl) byte_leaves byte_mk
  exact a hv h
theorem open_keys (hv : Value.okWide Tryd.prog w r b0 ty_keys_Keys v) (h : DataW.Trod enc Tryd.prog w base (fun _ => true) held ty_keys_Keys v d p) : ∃ x : T_keys_Keys, v = .agg (T_keys_Keys.rep.cells x).toArray ∧ Bytes4 (toL x) ∧ Wide (toL x) := by
  have hfs : Tryd.prog.underlying ty_keys_Keys = some (.struct (fieldsOf Tryd.prog ty_keys_Keys)) := by kernel_rfl
  have a := @agg_of_trod H enc Tryd.prog w base (fun _ => true) held T_keys_Keys keysE (fun x => Bytes4 (toL x) ∧ Wide (toL x)) r b0 4 ty_keys_Keys (fieldsOf Tryd.prog ty_keys_Keys) keysLs v d p hfs (by kernel_rfl) keys_leaves keys_mk
  obtain ⟨x, e, hb, hw⟩ := a hv h
  exact ⟨x, e, hb, hw⟩
end

/-! ### The world that lays the listed tables -/
def tabs : List (String × DataW Unit) := [("math/bits.deBruijn32tab", Rows.laid_math_bits_deBruijn32tab), ("math/bits.deBruijn64tab", Rows.laid_math_bits_deBruijn64tab), ("internal/strconv.uint64pow10", Rows.laid_internal_strconv_uint64pow10), ("unicode/utf8.acceptRanges", Rows.laid_unicode_utf8_acceptRanges), ("unicode/utf8.first", Rows.laid_unicode_utf8_first)]
theorem tabs_shaped (os : Os) : (World.laidAll Tryd.prog os tabs).Shaped Tryd.prog := World.shaped_of_ZipB (by kernel_rfl) (by kernel_rfl)
theorem tabs_met (os : Os) (args : Array Value) : laidMetH Tryd.prog tabs ((World.laidAll Tryd.prog os tabs).forCall (fun _ _ => 0) ⟨#[], args, []⟩).memory := by
  rw [MakeChecks.laidMetH_plain _ _ _ (by kernel_rfl)]
  exact laidMet_laidAll _ (by kernel_rfl) (by kernel_rfl)
theorem tabIs_of_vars {P : Program} {W : World} {name : String} {k : IntKind} {zs : List Int} {rest : List (String × DataW Unit)} {g : Nat} {t e : TypeId} {n : Nat} {ps : List MemPlace}
    (hg : P.globalNamed name = some g) (hty : (P.globals[g]?).map (·.type) = some t) (ht : P.underlying t = some (.array n e)) (he : P.underlying e = some (.int k)) (hce : P.cellsOf e = 1) (hct : P.cellsOf t = n)
    (h : DataW.LaidVars P W ((name, Lib.tabData k zs) :: rest) ps) : Lib.TabIs P W name k zs := by
  obtain ⟨g', t', cs, fuel, p, q, hg', ht', hvar, hd, _, _⟩ := h
  obtain rfl := Option.some.inj (hg.symm.trans hg')
  obtain rfl := Option.some.inj (hty.symm.trans ht')
  unfold Lib.TabIs
  rw [hvar, ← Lib.cells_of_tab ht he hce hct hd]
theorem tab_of_laid {W : World} (h : laidMetH Tryd.prog tabs W) : Tab W := by
  rw [MakeChecks.laidMetH_plain _ _ _ (by kernel_rfl)] at h
  obtain ⟨ps, ⟨_, _, _, _, _, _, _, _, _, _, ⟨_, _, _, _, _, _, _, _, _, _, h, _⟩, _⟩, _⟩ := h
  have e : (Rows.laid_internal_strconv_uint64pow10 : DataW Unit) = Lib.tabData .u64 Lib.pow10Tab := by kernel_rfl
  rw [e] at h
  exact tabIs_of_vars (g := 1) (t := (Tryd.prog.globals[1]?).map (·.type) |>.getD 0) (e := 132) (n := 20) (by kernel_rfl) (by kernel_rfl) (by kernel_rfl) (by kernel_rfl) (by kernel_rfl) (by kernel_rfl) h
end Go.Proofs.YtpadlibcalomnaaDoor
