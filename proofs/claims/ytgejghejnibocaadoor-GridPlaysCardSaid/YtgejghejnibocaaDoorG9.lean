/- Grids of the program: Text, Fill. -/
import Derived.Test.YtgejghejnibocaaDoorG8
namespace Go.Proofs.YtgejghejnibocaaDoor
open Go.Vc Go.RowKit

def strE : El ByteArray where
  cells s := [.string s]
  t := 9
  k := 1
  pos := by decide
  len _ := rfl
  one x v hv := by
    simp only [List.mem_cons, List.mem_nil_iff, or_false] at hv
    rcases hv with rfl
    rfl
noncomputable def slT71 : SlT Tryd.prog strE 71 where
  ht := by kernel_rfl
  i := (Tryd.prog.info? 9).getD default
  hi := by kernel_rfl
  z := .string ⟨#[]⟩
  hz := by kernel_rfl
  hs := by kernel_rfl
  hzs := rfl
theorem by71 : slT71.i.bytes = 16 := by kernel_rfl

section
variable {w : World} {base : Nat} {f : Foot} {S : GS}
theorem gText_spec {K : Slc → World → Prop} (h : GridM w base f S) (hL : S.L.length = S.rows) (hrows : S.rows ≤ 1000) (hw : ∀ xs ∈ S.L, xs.length ≤ 10000)
    (hK : ∀ r w', Own strE w' w.heap.size r (S.L.map textS) → Below w.heap.size w w' → K r w') : c_grid_Grid_Text (some ⟨f.g, 0, none⟩) w K := by
  refine call_grid_Grid_Text _ ?_
  unfold sh_grid_Grid_Text
  simp only [onPtr_some]
  refine ldSl_of (x := f.ls) (h.blk.cells 3 _ rfl) ?_
  obtain ⟨ls, ho, hl⟩ := h.row
  have hll := hl.1
  have hln : f.ls.n = S.rows := by rw [ho.rd.n, hll, hL]
  refine loopP_rule (fun (s : Slc × Int × Unit) w2 => ∃ k : Nat, s.2.1 = k ∧ k ≤ S.rows ∧ Own strE w2 w.heap.size s.1 ((S.L.take k).map textS) ∧ Below w.heap.size w w2) (fun s => S.rows - s.2.1.toNat) ⟨0, rfl, by omega, by simpa using Own.nil strE w w.heap.size, Below.refl _ _⟩ ?_
  rintro ⟨s, i, _⟩ w2 ⟨k, rfl, hk, hs, hB⟩ I hI
  dsimp only at *
  rw [hln]
  refine cond_of (fun hlt => ?_) (fun hge => ?_)
  · have hlt := of_decide_eq_true hlt
    have ho2 := ho.ext hB
    have hl2 := hl.ext hB
    refine ho2.rd.ix rfl (by omega) (by omega) fun hc => ?_
    have hlk : ls[k]? = some (ls[k]'(by omega)) := List.getElem?_eq_getElem _
    have hxk : S.L[k]? = some (S.L[k]'(by omega)) := List.getElem?_eq_getElem _
    refine ldSl_of (x := ls[k]'(by omega)) (by simpa using hc 0 _ rfl) ?_
    refine Text_spec (hl2.2 _ _ _ hlk hxk).rd (hw _ (List.getElem_mem _)) fun w3 hB3 => ?_
    refine nw_blk fun w4 hb4 hB4 hs4 => ?_
    have hr4 : Rd strE w4 ⟨some ⟨w3.heap.size, 0, none⟩, 1, 1⟩ [textS (S.L[k]'(by omega))] := rd_one (E := strE) hb4 rfl
    have hB24 : Below w2.heap.size w2 w4 := hB3.trans (hB4.mono hB3.size)
    have hB04 : Below w.heap.size w w4 := hB.trans (hB24.mono hB.size)
    refine apK_own slT71 (hs.ext hB24) hr4 hB04.size (by rw [by71]; simp; omega) (by simp [maxLen]; omega) fun q w5 ho5 hg5 hq5 => ?_
    rw [wrap64_id (by omega)]
    refine hI _ _ ⟨k + 1, by simp, by omega, ?_, hB04.grown hg5 hB04.size fun g hg => (hs.lt g hg).1⟩ (by simp; omega)
    rw [List.take_add_one, hxk, List.map_append]
    exact ho5
  · have hge := of_decide_eq_false hge
    have : k = S.L.length := by omega
    subst this
    rw [List.take_length] at hs
    exact hK _ _ hs hB

theorem plain87 : C.plain 87 = true := by kernel_rfl
theorem fill1_spec {l : Slc} {xs : List Cell} {b0 b1 b2 : Nat} {from_ to : Int} {a : Attr} {K : Slc → World → Prop} (hl : Rd cellE w l xs) (hxl : xs.length ≤ 10000) (h0 : Blk w b0 3 [.int .i64 from_]) (h1 : Blk w b1 3 [.int .i64 to]) (h2 : Blk w b2 23 (T_api_Attr.rep.cells a))
    (hK : ∀ s w', Own cellE w' w.heap.size s (eraP xs from_ to a) → Below w.heap.size w w' → K s w') :
    callR C (.func (.func 87) #[] #[.pointer (some ⟨b0, 0, none⟩), .pointer (some ⟨b1, 0, none⟩), .pointer (some ⟨b2, 0, none⟩)]) [.slice l.a l.n l.c] [Kind.slice] w K := by
  have h : c_grid_Grid_Fill_1 l ⟨b0, 0, none⟩ ⟨b1, 0, none⟩ ⟨b2, 0, none⟩ w K := by
    refine call_grid_Grid_Fill_1 _ _ _ _ ?_
    unfold sh_grid_Grid_Fill_1
    refine ldI_of (x := from_) (by simpa using h0.cells 0 _ rfl) ?_
    refine ldI_of (x := to) (by simpa using h1.cells 0 _ rfl) ?_
    refine ldS_of (x := a) h2.cells ?_
    exact Erase_spec hl hxl hK
  refine callR_plain plain87 (Calls.mono h ?_)
  rintro e w' ⟨r, rfl, hk⟩
  exact ⟨r, rfl, hk⟩

theorem gFill_spec {row from_ to : Int} {a : Attr} {K : Bool → World → Prop} (h : GridM w base f S) (hL : S.L.length = S.rows) (hw : ∀ xs ∈ S.L, xs.length ≤ 10000) (hbase : base ≤ w.heap.size)
    (hK1 : ∀ w', (0 ≤ row ∧ row < S.rows) → GridM w' base f { S with L := S.L.set row.toNat (resL (eraP (S.L.getD row.toNat []) from_ to a) S.cols) } → Chg (gridS f) w w' → K true w')
    (hK2 : ∀ w', ¬ (0 ≤ row ∧ row < S.rows) → Below w.heap.size w w' → K false w') : c_grid_Grid_Fill (some ⟨f.g, 0, none⟩) row from_ to a w K := by
  refine call_grid_Grid_Fill _ _ _ _ _ ?_
  unfold sh_grid_Grid_Fill
  refine nw_blk fun w1 hb1 hB1 hs1 => ?_
  refine nw_blk fun w2 hb2 hB2 hs2 => ?_
  refine nw_blk fun w3 hb3 hB3 hs3 => ?_
  have hB03 : Below w.heap.size w w3 := hB1.trans ((hB2.trans (hB3.mono hB2.size)).mono hB1.size)
  have h3 := h.ext hB03
  have hb1' := (hb1.ext hB2).ext hB3
  have hb2' := hb2.ext hB3
  refine call_grid_Grid_Change _ _ _ ?_
  unfold sh_grid_Grid_Change
  simp only [onPtr_some]
  refine joinP_of fun J hJ => ?_
  refine gis_spec h3 ?_
  by_cases hr : 0 ≤ row ∧ row < (S.rows : Int)
  · rw [decide_eq_true hr]
    refine cond_t rfl ?_
    refine ldSl_of (x := f.ls) (h3.drew.blk.cells 3 _ rfl) ?_
    refine ldSl_of (x := f.ls) (h3.drew.blk.cells 3 _ rfl) ?_
    obtain ⟨ls, ho, hl⟩ := h3.row
    have hll := hl.1
    refine ho.drew.rd.ix rfl hr.1 (by omega) fun hc => ?_
    have hlk : ls[row.toNat]? = some (ls[row.toNat]'(by omega)) := List.getElem?_eq_getElem _
    have hxk : S.L[row.toNat]? = some (S.L[row.toNat]'(by omega)) := List.getElem?_eq_getElem _
    refine ldSl_of (x := ls[row.toNat]'(by omega)) (by simpa using hc 0 _ rfl) ?_
    refine ldI_of (x := (S.cols : Int)) (h3.drew.blk.cells 2 _ rfl) ?_
    have hwk := hw _ (List.mem_of_getElem? hxk)
    refine fill1_spec (hl.2 _ _ _ hlk hxk).drew.rd hwk hb1'.drew hb2'.drew hb3.drew fun t w4 ht hB4 => ?_
    have hB34 : Below w3.heap.size w3 w4 := (Below.refl _ w3).drew.trans hB4
    have h4 := h3.ext hB34
    refine ⟨h4.blk.cells 2 _ rfl, h4.blk.cells 3 _ rfl, ?_⟩
    refine Resize_spec ht.rd (by rw [eraP_length]; exact hwk) fun u w5 hu hB5 => ?_
    have hB35 : Below w3.heap.size w3 w5 := hB34.trans (hB5.mono hB34.size)
    have h5 := h3.ext hB35
    refine ⟨h5.blk.cells 3 _ rfl, ?_⟩
    have ho5 := ho.ext hB35
    have hs0 := hB03.size
    have hs4 := hB34.size
    refine ho5.rd.ix rfl hr.1 (by omega) fun _ => ?_
    refine ho5.st0 (x := ls[row.toNat]'(by omega)) hlk (y := u) rfl fun w6 ho6 hg6 hs6 => ?_
    obtain ⟨h6, hc6⟩ := h5.setLine (i := row.toNat) (hl.ext hB35) (hu.base (by omega)) ho6 hg6
    refine hJ _ _ (gis_spec h6 ?_)
    rw [decide_eq_true hr]
    refine hK1 w6 hr ?_ ((Chg.of_ext (S := gridS f) (hB03.trans (hB35.mono hs0))).trans hc6 fun i _ hi => .inr (.inr (.inl hi)))
    rw [List.getD_eq_getElem?_getD, hxk]
    exact h6
  · rw [decide_eq_false hr]
    refine cond_f rfl (hJ _ _ (gis_spec h3 ?_))
    rw [decide_eq_false hr]
    exact hK2 w3 hr hB03
end

end Go.Proofs.YtgejghejnibocaaDoor
