/- The laws of grids, walked: GridPlays. -/
import Derived.Test.YtgejghejnibocaaDoorH6
namespace Go.Proofs.YtgejghejnibocaaDoor
open Go.Vc Go.RowKit

theorem mem_getD {L : List (List Cell)} {i : Nat} (h : i < L.length) : L.getD i [] ∈ L := by
  rw [List.getD_eq_getElem?_getD, List.getElem?_eq_getElem h]
  exact List.getElem_mem h

theorem GridPlays_law {rows cols back : Int} {l : Slc} {ops : List GAct} {w : World} {K : Bool → World → Prop} (h : Rd gactE w l ops) (hq : ∀ x ∈ ops, gactQ w x) (hK : ∀ w', Below w.heap.size w w' → K true w') : c_phosphorlaw16_GridPlays rows cols back l w K := by
  refine call_phosphorlaw16_GridPlays _ _ _ _ ?_
  unfold sh_phosphorlaw16_GridPlays
  refine known16 fun w1 hB1 => ?_
  refine cond_f rfl ?_
  refine joinP_of fun J1 hJ1 => ?_
  refine few16_spec (h.ext hB1) fun b w2 hb hB2 => ?_
  have hB02 : Below w.heap.size w w2 := hB1.trans (hB2.mono hB1.size)
  refine cond_of (fun _ => hK _ hB02) (fun hbt => ?_)
  obtain ⟨hlen, hfew⟩ := hb (by simpa using hbt)
  have main : J1 () w2 := hJ1 _ _ (by
    clear hJ1
    have hs2 := hB02.size
    refine gNew_spec (fun hbad => ?_) (fun hgood f w3 h3 hB3 => ?_)
    · refine rNewG_spec (fun _ => ?_) (fun hg => absurd hbad hg)
      refine joinP_of fun J hJ => ?_
      refine cond_f rfl (cond_f rfl (hJ _ _ ?_))
      exact cond_t rfl (hK _ hB02)
    have hs3 := hB3.size
    have hB03 : Below w.heap.size w w3 := hB02.trans (hB3.mono hs2)
    refine rNewG_spec (fun hbad => absurd hbad hgood) (fun _ f' w4 h4' hB4 => ?_)
    have hs4 := hB4.size
    have hB04 : Below w.heap.size w w4 := hB03.trans (hB4.mono hB03.size)
    refine joinP_of fun J hJ => ?_
    refine cond_f rfl (cond_f rfl (hJ _ _ ?_))
    clear hJ
    refine cond_f rfl ?_
    rw [h.n]
    unfold badGrid at hgood
    have ok0 : GSok (gs0 rows.toNat cols.toNat back.toNat) 0 := GSok.new (by omega) (by omega) (by omega)
    refine loopP_rule (fun (s : Int × Unit) w5 => ∃ (k : Nat) (f5 : Foot) (f5' : RFoot) (S : GS), s.1 = k ∧ k ≤ ops.length ∧ f5.g = f.g ∧ f5'.g = f'.g ∧ GridM w5 w2.heap.size f5 S ∧ RefM w5 w2.heap.size f5' S ∧ GSok S (1000 * k) ∧ Below w.heap.size w w5 ∧ w2.heap.size ≤ w5.heap.size) (fun s => ops.length - s.1.toNat)
      ⟨0, f, f', _, rfl, by omega, rfl, rfl, h3.ext hB4, ?_, ok0, hB04, by omega⟩ ?_
    · obtain ⟨b1, b2, ⟨l1, o1, k1⟩, ⟨l2, o2, k2⟩, b5⟩ := h4'
      exact ⟨b1, by omega, ⟨l1, o1.base hs3, k1.1, fun i t xs x1 x2 => (k1.2 i t xs x1 x2).base hs3⟩, ⟨l2, o2.base hs3, k2.1, fun i t xs x1 x2 => (k2.2 i t xs x1 x2).base hs3⟩, b5⟩
    rintro ⟨i, _⟩ w5 ⟨k, f5, f5', S, rfl, hk, hfg, hfg', h5, h5', ok, hB5, hs5⟩ I hI
    dsimp only at *
    refine cond_of (fun hlt => ?_) (fun hge => hK _ hB5)
    have hlt := of_decide_eq_true hlt
    have hkl : k < ops.length := by omega
    refine (h.ext hB5).ix rfl (by omega) (by omega) fun hca => ?_
    have hqa := hq ops[k] (List.getElem_mem hkl)
    have hfa := hfew ops[k] (List.getElem_mem hkl)
    have hca : cellsAt w5 (l.at_ 10 k) (gactE.cells ops[k]) := hca
    generalize ops[k] = a at *
    refine ldS_of (x := a) hca ?_
    obtain ⟨⟨xs, hxs, hxq⟩, hN, hR⟩ := hqa
    refine box_of (t := 80) rfl fun w8 hb8 hB8 hs8 => ?_
    have hB08 : Below w.heap.size w w8 := hB5.trans (hB8.mono hB5.size)
    have hs58 := hB8.size
    have h8 := h5.ext hB8
    have h8' := h5'.ext hB8
    have hx8 := hxs.ext hB08
    have hxl : xs.length ≤ 4000 := by have := hxs.n; omega
    have hxo : okR xs := fun c hc => ⟨by have := (hxq c hc).1; omega, by have := (hxq c hc).2; omega⟩
    have hwL : ∀ xs ∈ S.L, xs.length ≤ 10000 := fun xs hx => by rw [(ok.L xs hx).2.1]; have := ok.cols.2; omega
    have hbase8 : w2.heap.size ≤ w8.heap.size := by omega
    have hT : (1000 * (k : Int)) ≤ 100000 := by omega
    generalize w5.heap.size = g at *
    rw [← hfg, ← hfg']
    refine joinP_of fun J4 hJ4 => ?_
    -- behind each act
    have next : ∀ (f9 : Foot) (f9' : RFoot) (S' : GS) w9, f9.g = f5.g → f9'.g = f5'.g → GridM w9 w2.heap.size f9 S' → RefM w9 w2.heap.size f9' S' → GSok S' (1000 * ((k + 1 : Nat) : Int)) → Below w.heap.size w w9 → w2.heap.size ≤ w9.heap.size → Blk w9 g 80 (T_phosphorlaw16_Act.rep.cells a) → J4 () w9 := fun f9 f9' S' w9 e e' h9 h9' ok9 hB9 hs9 hb9 => hJ4 _ _ (by
      refine ldI_of (x := a.Row) (hb9.cells 1 _ rfl) ?_
      rw [← e, ← e']
      refine looks_spec h9 h9' (ok9.mono (by omega)) fun w10 hB10 => ?_
      refine cond_f rfl ?_
      rw [wrap64_id (by omega)]
      have := hB10.size
      exact hI _ _ ⟨k + 1, f9, f9', S', by simp, by omega, e.trans hfg, e'.trans hfg', h9.ext hB10, h9'.ext hB10, ok9, hB9.trans (hB10.mono hB9.size), by omega⟩ (by simp; omega))
    clear hJ4 hI
    have okn := ok.mono (show 1000 * (k : Int) ≤ 1000 * ((k + 1 : Nat) : Int) by omega)
    refine ldI_of (x := a.Op) (hb8.cells 0 _ rfl) ?_
    refine cond_of (fun _ => ?_) (fun _ => cond_of (fun _ => ?_) (fun _ => cond_of (fun _ => ?_) (fun _ => cond_of (fun _ => ?_) (fun _ => cond_of (fun _ => ?_) (fun _ => cond_of (fun _ => ?_) (fun _ => ?_))))))
    · -- Set
      have hbd := hb8.drew
      refine ldI_of (x := a.Row) (hbd.cells 1 _ rfl) ?_
      refine ldSl_of (x := a.L) (hbd.cells 2 _ rfl) ?_
      refine ldI_of (x := a.Row) (hbd.cells 1 _ rfl) ?_
      refine ldSl_of (x := a.L) (hbd.cells 2 _ rfl) ?_
      refine gSet_spec h8.drew hx8.drew (by omega) ok.len hbase8 (fun w9 hr h9 hc9 => ?_) (fun hn => ?_)
      · have hb9 := blk_grid h8.drew hbd hc9
        have h9' := ref_stays h8.drew h8'.drew hc9
        refine ⟨hb9.cells 2 _ rfl, hb9.cells 1 _ rfl, ?_⟩
        have hB9 := grid_below h8.drew hB08.drew hs2 hbase8 hc9
        have hs9 : w2.heap.size ≤ w9.heap.size := Nat.le_trans hbase8 hc9.size
        refine rSet_spec h9' (hxs.ext hB9) (by omega) ok.len hs9 (fun w10 _ h10' hc10 => ?_) (fun hn => absurd hr hn)
        refine cond_f rfl (next f5 f5' _ w10 rfl rfl (grid_stays h9 h9' hc10) h10' (okn.set _ (res_good ok.cols.2 hxo)) (ref_below h9' hB9 hs2 hs9 hc10) (Nat.le_trans hs9 hc10.size) (blk_ref h9' hb9 hc10))
      · refine ⟨hbd.cells 2 _ rfl, hbd.cells 1 _ rfl, ?_⟩
        refine rSet_spec h8'.drew hx8.drew (by omega) ok.len hbase8 (fun w10 hr _ _ => absurd hr hn) (fun _ => ?_)
        exact cond_f rfl (next f5 f5' _ _ rfl rfl h8.drew h8'.drew okn hB08.drew hbase8 hbd)
    · -- Scroll
      have hbd := hb8.drew
      have hA : ∀ {w' : World}, Blk w' g 80 (T_phosphorlaw16_Act.rep.cells a) → cellsAt w' ((⟨g, 0, none⟩ : Addr).add 5) (T_api_Attr.rep.cells a.A) := fun hb => hb.sub 5 _ rfl
      refine ldI_of (x := a.Row) (hbd.cells 1 _ rfl) ?_
      refine ldI_of (x := a.Past) (hbd.cells 3 _ rfl) ?_
      refine ldI_of (x := a.N) (hbd.cells 4 _ rfl) ?_
      refine ldS_of (x := a.A) (hA hbd) ?_
      refine ldI_of (x := a.Row) (hbd.cells 1 _ rfl) ?_
      refine ldI_of (x := a.Past) (hbd.cells 3 _ rfl) ?_
      refine ldI_of (x := a.N) (hbd.cells 4 _ rfl) ?_
      refine ldS_of (x := a.A) (hA hbd) ?_
      refine gScroll_spec h8.drew ok.len ok.rows.2 (by have := ok.most; omega) hbase8 hN fun f9 w9 h9 hf9 hc9 => ?_
      have hb9 := blk_grid h8.drew hbd hc9
      have h9' := ref_stays h8.drew h8'.drew hc9
      refine ⟨hA hb9, hb9.cells 4 _ rfl, hb9.cells 3 _ rfl, hb9.cells 1 _ rfl, ?_⟩
      have hB9 := grid_below h8.drew hB08.drew hs2 hbase8 hc9
      have hs9 : w2.heap.size ≤ w9.heap.size := Nat.le_trans hbase8 hc9.size
      refine rScroll_spec h9' ok.len ok.rows.2 ok.olen (by have := ok.most; omega) hs9 hN ⟨ok.top.1, by have := ok.top.2; omega⟩ fun f10 w10 h10' hf10 hc10 => ?_
      refine cond_f (by simp) (next f9 f10 _ w10 hf9.g hf10.g (grid_stays h9 h9' hc10) h10' ((ok.scroll _ _ _ _ (by omega)).mono (by omega)) (ref_below h9' hB9 hs2 hs9 hc10) (Nat.le_trans hs9 hc10.size) (blk_ref h9' hb9 hc10))
    · -- Fill
      have hbd := hb8.drew
      have hA : ∀ {w' : World}, Blk w' g 80 (T_phosphorlaw16_Act.rep.cells a) → cellsAt w' ((⟨g, 0, none⟩ : Addr).add 5) (T_api_Attr.rep.cells a.A) := fun hb => hb.sub 5 _ rfl
      refine ldI_of (x := a.Row) (hbd.cells 1 _ rfl) ?_
      refine ldI_of (x := a.Past) (hbd.cells 3 _ rfl) ?_
      refine ldI_of (x := a.N) (hbd.cells 4 _ rfl) ?_
      refine ldS_of (x := a.A) (hA hbd) ?_
      refine ldI_of (x := a.Row) (hbd.cells 1 _ rfl) ?_
      refine ldI_of (x := a.Past) (hbd.cells 3 _ rfl) ?_
      refine ldI_of (x := a.N) (hbd.cells 4 _ rfl) ?_
      refine ldS_of (x := a.A) (hA hbd) ?_
      refine gFill_spec h8.drew ok.len hwL hbase8 (fun w9 hr h9 hc9 => ?_) (fun w9 hn hB9 => ?_)
      · have hb9 := blk_grid h8.drew hbd hc9
        have h9' := ref_stays h8.drew h8'.drew hc9
        refine ⟨hA hb9, hb9.cells 4 _ rfl, hb9.cells 3 _ rfl, hb9.cells 1 _ rfl, ?_⟩
        have hB9 := grid_below h8.drew hB08.drew hs2 hbase8 hc9
        have hs9 : w2.heap.size ≤ w9.heap.size := Nat.le_trans hbase8 hc9.size
        refine rFill_spec h9' ok.len hwL hs9 (fun w10 _ h10' hc10 => ?_) (fun _ hn => absurd hr hn)
        have hX := ok.L _ (mem_getD (L := S.L) (i := a.Row.toNat) (by have := ok.len; omega))
        generalize S.L.getD a.Row.toNat [] = X at *
        have he : rightB (eraP X a.Past a.N a.A) = true ∧ (eraP X a.Past a.N a.A).length = S.cols ∧ okR (eraP X a.Past a.N a.A) := ⟨right_era _ _ _ _, by rw [eraP_length]; exact hX.2.1, okR_era hX.2.2 _ _ _⟩
        have hr' : resL (eraP X a.Past a.N a.A) S.cols = eraP X a.Past a.N a.A := by
          have := resL_right he.1 (by rw [he.2.1]; exact ok.cols.2)
          rwa [he.2.1] at this
        rw [hr'] at h9
        exact cond_f rfl (next f5 f5' _ w10 rfl rfl (grid_stays h9 h9' hc10) h10' (okn.set _ he) (ref_below h9' hB9 hs2 hs9 hc10) (Nat.le_trans hs9 hc10.size) (blk_ref h9' hb9 hc10))
      · have hb9 := hbd.ext hB9
        have h9' := h8'.drew.ext hB9
        refine ⟨hA hb9, hb9.cells 4 _ rfl, hb9.cells 3 _ rfl, hb9.cells 1 _ rfl, ?_⟩
        have hB09 : Below w.heap.size w w9 := hB08.drew.trans (hB9.mono hB08.size)
        have hs9 : w2.heap.size ≤ w9.heap.size := Nat.le_trans hbase8 hB9.size
        refine rFill_spec h9' ok.len hwL hs9 (fun w10 hr _ _ => absurd hr hn) (fun w10 _ hB10 => ?_)
        exact cond_f rfl (next f5 f5' _ w10 rfl rfl ((h8.drew.ext hB9).ext hB10) (h9'.ext hB10) okn (hB09.trans (hB10.mono hB09.size)) (Nat.le_trans hs9 hB10.size) (hb9.ext hB10))
    · -- Resize
      refine ldI_of (x := a.Rows) (hb8.cells 8 _ rfl) ?_
      refine ldI_of (x := a.Cols) (hb8.cells 9 _ rfl) ?_
      refine ldI_of (x := a.Row) (hb8.cells 1 _ rfl) ?_
      refine gResize_spec h8 ok.len ok.rows.2 hwL (by have := ok.most; omega) hbase8 (fun hbad => ?_) (fun f9 w9 hgood h9 hf9 hc9 => ?_)
      · refine ldI_of (x := a.Rows) (hb8.cells 8 _ rfl) ?_
        refine ldI_of (x := a.Cols) (hb8.cells 9 _ rfl) ?_
        refine ldI_of (x := a.Row) (hb8.cells 1 _ rfl) ?_
        refine rResizeG_spec h8' ok.len ok.rows.2 hwL ok.olen (by have := ok.most; omega) hbase8 ⟨ok.top.1, by have := ok.top.2; omega⟩ (fun _ => ?_) (fun _ _ hg => absurd hbad hg)
        exact cond_f rfl (cond_f rfl (next f5 f5' _ w8 rfl rfl h8 h8' okn hB08 hbase8 hb8))
      · have hb9 := blk_grid h8 hb8 hc9
        have h9' := ref_stays h8 h8' hc9
        have hB9 := grid_below h8 hB08 hs2 hbase8 hc9
        have hs9 : w2.heap.size ≤ w9.heap.size := Nat.le_trans hbase8 hc9.size
        refine ldI_of (x := a.Rows) (hb9.cells 8 _ rfl) ?_
        refine ldI_of (x := a.Cols) (hb9.cells 9 _ rfl) ?_
        refine ldI_of (x := a.Row) (hb9.cells 1 _ rfl) ?_
        refine rResizeG_spec h9' ok.len ok.rows.2 hwL ok.olen (by have := ok.most; omega) hs9 ⟨ok.top.1, by have := ok.top.2; omega⟩ (fun hbad => absurd hbad hgood) (fun f10 w10 _ h10' hf10 hc10 => ?_)
        have hg' := hgood
        unfold badResize at hg'
        exact cond_f (by simp) (cond_f rfl (next f9 f10 _ w10 hf9.g hf10.g (grid_stays h9 h9' hc10) h10' ((ok.resize (by omega) (by omega) (by omega)).mono (by omega)) (ref_below h9' hB9 hs2 hs9 hc10) (Nat.le_trans hs9 hc10.size) (blk_ref h9' hb9 hc10)))
    · -- Clear
      have hA : ∀ {w' : World}, Blk w' g 80 (T_phosphorlaw16_Act.rep.cells a) → cellsAt w' ((⟨g, 0, none⟩ : Addr).add 5) (T_api_Attr.rep.cells a.A) := fun hb => hb.sub 5 _ rfl
      refine ldS_of (x := a.A) (hA hb8) ?_
      refine gClear_spec h8 (by have := ok.rows.2; omega) hbase8 fun f9 w9 h9 hf9 hc9 => ?_
      have hb9 := blk_grid h8 hb8 hc9
      have h9' := ref_stays h8 h8' hc9
      have hB9 := grid_below h8 hB08 hs2 hbase8 hc9
      have hs9 : w2.heap.size ≤ w9.heap.size := Nat.le_trans hbase8 hc9.size
      refine ldS_of (x := a.A) (hA hb9) ?_
      refine rClear_spec h9' (by have := ok.rows.2; omega) hs9 fun f10 w10 h10' hf10 hc10 => ?_
      exact next f9 f10 _ w10 hf9.g hf10.g (grid_stays h9 h9' hc10) h10' (okn.clear _) (ref_below h9' hB9 hs2 hs9 hc10) (Nat.le_trans hs9 hc10.size) (blk_ref h9' hb9 hc10)
    · -- Forget
      refine gForget_spec h8 fun w9 h9 hc9 => ?_
      have hb9 := blk_grid h8 hb8 hc9
      have h9' := ref_stays h8 h8' hc9
      have hB9 := grid_below h8 hB08 hs2 hbase8 hc9
      have hs9 : w2.heap.size ≤ w9.heap.size := Nat.le_trans hbase8 hc9.size
      simp only [onPtr_some]
      rw [add_mk]
      refine stK_blk h9'.blk (by simp) fun w10 hb10 hg10 hs10 => ?_
      obtain ⟨ls, ho, hl⟩ := h9'.row
      have h10' : RefM w10 w2.heap.size ⟨f5'.g, f5'.ls, ⟨none, 0, 0⟩⟩ { S with old := [] } := RefM.mk' (g := f5'.g) h9'.blk h9'.hg ho hl (Own.nil _ _ _) (Lines.nil _ _) (fun k _ hk => by cases hk) hb10 hg10
      have hc10 : Chg (refS f5') w9 w10 := Chg.of_grown hg10 fun i hi => by cases hi; exact .inl rfl
      exact next { f5 with rs := ⟨none, 0, 0⟩ } ⟨f5'.g, f5'.ls, ⟨none, 0, 0⟩⟩ _ w10 rfl rfl (grid_stays h9 h9' hc10) h10' okn.forget (ref_below h9' hB9 hs2 hs9 hc10) (Nat.le_trans hs9 hc10.size) (blk_ref h9' hb9 hc10)
    · exact next f5 f5' _ w8 rfl rfl h8 h8' okn hB08 hbase8 hb8)
  refine cond_of (fun _ => cond_of (fun _ => cond_of (fun _ => cond_of (fun _ => cond_of (fun _ => hK _ hB02) (fun _ => main)) (fun _ => main)) (fun _ => main)) (fun _ => main)) (fun _ => main)

end Go.Proofs.YtgejghejnibocaaDoor
