/- Grids of the reference: Resize. -/
import Derived.Test.YtgejghejnibocaaDoorR3
namespace Go.Proofs.YtgejghejnibocaaDoor
open Go.Vc Go.RowKit

theorem scrollG_old {S : GS} {top past n : Int} {a : Attr} (h : S.old.length ≤ S.most) : (scrollG S top past n a).old.length ≤ S.most := by
  unfold scrollG
  split
  · exact h
  · split
    · exact pushAll_length _ h
    · exact h

section
variable {w : World} {base : Nat} {f : RFoot} {S : GS}
theorem rResizeG_spec {rows cols row : Int} {K : Int → Int → World → Prop} (h : RefM w base f S) (hL : S.L.length = S.rows) (hrows : S.rows ≤ 1000) (hw : ∀ xs ∈ S.L, xs.length ≤ 10000) (hold : S.old.length ≤ S.most) (hmost : S.most ≤ 100000) (hbase : base ≤ w.heap.size) (htop : 0 ≤ S.top ∧ S.top ≤ 900000000)
    (hK1 : badResize S rows cols row → K 0 1 w)
    (hK2 : ∀ f' w', ¬ badResize S rows cols row → RefM w' base f' (resizeG S rows.toNat cols.toNat row) → f.to f' w.heap.size → Chg (refS f) w w' → K (if row ≥ rows then rows - 1 else row) 0 w') : c_phosphorref16_Grid_Resize (some ⟨f.g, 0, none⟩) rows cols row w K := by
  refine call_phosphorref16_Grid_Resize _ _ _ _ ?_
  unfold sh_phosphorref16_Grid_Resize
  simp only [onPtr_some]
  refine joinP_of fun J1 hJ1 => ?_
  refine rsize_spec ?_
  by_cases c1 : 1 ≤ rows ∧ rows ≤ 1000
  rotate_left
  · rw [decide_eq_false c1]; exact cond_t rfl (hK1 (.inl c1))
  rw [decide_eq_true c1]
  refine cond_f rfl (rsize_spec ?_)
  by_cases c2 : 1 ≤ cols ∧ cols ≤ 1000
  rotate_left
  · rw [decide_eq_false c2]; exact cond_t rfl (hK1 (.inr (.inl c2)))
  rw [decide_eq_true c2]
  refine cond_f rfl (rIs_spec h ?_)
  by_cases c3 : 0 ≤ row ∧ row < (S.rows : Int)
  rotate_left
  · rw [decide_eq_false c3]; exact cond_t rfl (hK1 (.inr (.inr c3)))
  rw [decide_eq_true c3]
  refine cond_f rfl (hJ1 _ _ ?_)
  have hgood : ¬ badResize S rows cols row := by unfold badResize; omega
  have hK := fun f' w' => hK2 f' w' hgood
  clear hK1 hK2 hJ1
  obtain ⟨rows, rfl⟩ : ∃ n : Nat, rows = n := ⟨rows.toNat, by omega⟩
  obtain ⟨cols, rfl⟩ : ∃ n : Nat, cols = n := ⟨cols.toNat, by omega⟩
  simp only [Int.toNat_natCast] at hK
  have hRl : (S.L.map (resL · (cols : Int))).length = S.L.length := by simp
  refine loopP_rule (fun (s : Int × Unit) w2 => ∃ k : Nat, s.1 = k ∧ k ≤ S.rows ∧ RefM w2 base f { S with L := mix (S.L.map (resL · (cols : Int))) S.L k } ∧ Chg (refS f) w w2) (fun s => S.rows - s.1.toNat) ⟨0, rfl, by omega, by rw [mix_zero]; exact h, Chg.refl _ _⟩ ?_
  rintro ⟨i, _⟩ w2 ⟨k, rfl, hk, h2, hc2⟩ I hI
  dsimp only at *
  refine ldI_of (x := (S.rows : Int)) (h2.blk.cells 0 _ rfl) ?_
  refine cond_of (fun hlt => ?_) (fun hge => ?_)
  · have hlt := of_decide_eq_true hlt
    obtain ⟨ls, ho, hl⟩ := h2.row
    have hll := hl.1
    rw [show ({ S with L := mix (S.L.map (resL · (cols : Int))) S.L k } : GS).L = mix (S.L.map (resL · (cols : Int))) S.L k from rfl, mix_length hRl] at hll
    have hkl : k < ls.length := by omega
    refine ldSl_of (x := f.ls) (h2.drew.blk.cells 3 _ rfl) ?_
    refine ldSl_of (x := f.ls) (h2.drew.blk.cells 3 _ rfl) ?_
    refine ho.drew.rd.ix rfl (by omega) (by omega) fun hc => ?_
    have hlk : ls[k]? = some ls[k] := List.getElem?_eq_getElem _
    refine ldSl_of (x := ls[k]) (by simpa using hc 0 _ rfl) ?_
    have hxk : (mix (S.L.map (resL · (cols : Int))) S.L k)[k]? = some (S.L[k]'(by omega)) := by
      rw [mix_get hRl (by omega), if_neg (by omega)]
      exact List.getElem?_eq_getElem _
    have hown := hl.2 _ _ _ hlk hxk
    refine rResize_spec hown.rd.drew (hw _ (List.getElem_mem _)) fun t w4 ht hB4 => ?_
    rw [← res_same] at ht
    have hB24 : Below w2.heap.size w2 w4 := (Below.refl _ w2).drew.trans hB4
    have h4 := h2.ext hB24
    refine ⟨h4.blk.cells 3 _ rfl, ?_⟩
    have ho4 := ho.ext hB24
    have hl4 := hl.ext hB24
    have hsz := hc2.size
    have hsz4 : w2.heap.size ≤ w4.heap.size := hB24.size
    refine ho4.rd.ix rfl (by omega) (by omega) fun _ => ?_
    refine ho4.st0 (x := ls[k]) (y := t) (by rw [show ((k : Int)).toNat = k from rfl]; exact hlk) rfl fun w5 ho5 hg5 hs5 => ?_
    rw [show ((k : Int)).toNat = k from rfl] at ho5
    obtain ⟨h5, hc5⟩ := h4.setLine (i := k) hl4 (ht.base (by show base ≤ w2.heap.size; omega)) ho5 hg5
    have hy : (S.L.map (resL · (cols : Int)))[k]? = some (resL (S.L[k]'(by omega)) cols) := by
      rw [List.getElem?_map, List.getElem?_eq_getElem (by omega : k < S.L.length)]
      rfl
    rw [wrap64_id (by omega)]
    refine hI _ _ ⟨k + 1, by simp, by omega, ?_, (hc2.trans (Chg.of_ext (S := fun k => f.ls.blk = some k) hB24 |>.trans hc5 fun i _ hi => hi) fun i _ hi => .inr (.inl hi))⟩ (by simp; omega)
    rw [← mix_set hRl (by omega) hy]
    exact h5
  · have hge := of_decide_eq_false hge
    have : k = S.L.length := by omega
    subst this
    rw [mix_all hRl] at h2
    rw [add_mk]
    refine stK_blk h2.blk (by simp) fun w5 hb5 hg5 hs5 => ?_
    obtain ⟨ls2, ho2, hl2⟩ := h2.row
    obtain ⟨os2, ho2', hl2'⟩ := h2.old
    have h5 : RefM w5 base f (resize1 S cols) := RefM.mk' (g := f.g) (rows := S.rows) (cols := cols) (most := S.most) (top := S.top) h2.blk h.hg ho2 hl2 ho2' hl2' h2.ne hb5 hg5
    have hc5 : Chg (refS f) w w5 := hc2.trans (Chg.gg hg5) fun i _ hi => .inl hi
    have hL1 : (resize1 S cols).L.length = (resize1 S cols).rows := by show (S.L.map _).length = S.rows; omega
    have hS5 := hc5.size
    clear hI I
    refine joinP_of fun J3 hJ3 => ?_
    have main : ∀ f6 w6, RefM w6 base f6 (resize2 S rows cols row) → f.to f6 w.heap.size → Chg (refS f) w w6 → J3 (if row ≥ (rows : Int) then (rows : Int) - 1 else row, ()) w6 := fun f6 w6 h6 hf6 hc6 => hJ3 _ _ (by
      clear hJ3
      obtain ⟨hL2, hr2, hcl2, hm2⟩ : (resize2 S rows cols row).L.length = S.rows ∧ (resize2 S rows cols row).rows = S.rows ∧ (resize2 S rows cols row).cols = cols ∧ (resize2 S rows cols row).most = S.most := by
        unfold resize2
        split
        · exact scrollG_length hL1
        · exact ⟨hL1, rfl, rfl, rfl⟩
      have hK := hK
      unfold resizeG at hK
      generalize resize2 S rows cols row = S2 at *
      have hg6 : f6.g = f.g := hf6.g
      dsimp only
      have hS6 := hc6.size
      rw [← hg6]
      refine joinP_of fun J4 hJ4 => ?_
      have main4 : ∀ f7 w7, RefM w7 base f7 { S2 with L := S2.L.take rows } → f6.g = f7.g → f.to f7 w.heap.size → Chg (refS f) w w7 → J4 () w7 := fun f7 w7 h7 hg7 hf7 hc7 => hJ4 _ _ (by
        clear hJ4
        rw [hg7]
        refine loopP_rule_w (fun n (_ : Unit) w8 => ∃ (j : Nat) (f8 : RFoot), n = rows - (min S.rows rows + j) ∧ min S.rows rows + j ≤ rows ∧ RefM w8 base f8 { S2 with L := S2.L.take rows ++ List.replicate j (newL cols ⟨0, 0, 0⟩) } ∧ f8.g = f7.g ∧ f.to f8 w.heap.size ∧ Chg (refS f) w w8) (rows - min S.rows rows) ⟨0, f7, by omega, by omega, by simpa using h7, rfl, hf7, hc7⟩ ?_
        rintro n _ w8 ⟨j, f8, rfl, hj, h8, hg8, hf8, hc8⟩ I hI
        have hS8 := hc8.size
        obtain ⟨ls8, ho8, hl8⟩ := h8.row
        have hl8l : f8.ls.n = min S.rows rows + j := by
          rw [ho8.rd.n, hl8.1]
          show (S2.L.take rows ++ List.replicate j (newL cols ⟨0, 0, 0⟩)).length = _
          simp [hL2, Nat.min_comm]
        rw [← hg8]
        refine ldSl_of (x := f8.ls) (h8.blk.cells 3 _ rfl) ?_
        rw [hl8l]
        refine cond_of (fun hlt => ?_) (fun hge => ?_)
        · have hlt : ((min S.rows rows + j : Nat) : Int) < (rows : Int) := of_decide_eq_true hlt
          refine ldSl_of (x := f8.ls) (h8.drew.blk.cells 3 _ rfl) ?_
          refine rNew_spec fun t w9 ht hB9 => ?_
          have hB89 : Below w8.heap.size w8 w9 := (Below.refl _ w8).drew.trans hB9
          have h9 := h8.ext hB89
          have hs89 : w8.heap.size ≤ w9.heap.size := hB89.size
          have hcell9 : w9.cell? ((⟨f8.g, 0, none⟩ : Addr).add 3) = some (.slice f8.ls.a f8.ls.n f8.ls.c) := h9.blk.cells 3 _ rfl
          refine ⟨hcell9, ?_⟩
          have key := rApp (K := fun w' => I () w') h9 (ht.base (by show base ≤ w8.heap.size; omega)) (by show (S2.L.take rows ++ List.replicate j (newL cols ⟨0, 0, 0⟩)).length ≤ 100000; simp; omega) (by omega) fun q w10 h10 hf10 hc10 => ?_
          · exact key
          · refine hI (rows - (min S.rows rows + (j + 1))) () w10 ⟨j + 1, { f8 with ls := q }, rfl, by omega, ?_, hg8, hf8.trans hf10 (by omega), (hc8.trans (Chg.of_ext (S := refS f) hB89) fun i _ hi => hi).trans hc10 fun i hi hs => ?_⟩ (by omega)
            · rw [List.replicate_succ', ← List.append_assoc]
              exact h10
            · rcases hf8.old i hs with e | e
              · exact e
              · omega
        · have hge : ¬ ((min S.rows rows + j : Nat) : Int) < (rows : Int) := of_decide_eq_false hge
          have hj' : j = rows - S.rows := by omega
          subst hj'
          rw [add_mk]
          refine stK_blk h8.blk (by simp) fun w9 hb9 hg9 hs9 => ?_
          obtain ⟨os8, ho8', hl8'⟩ := h8.old
          have h9 := RefM.mk' (g := f8.g) (rows := rows) (cols := S2.cols) (most := S2.most) (top := S2.top) h8.blk h8.hg ho8 hl8 ho8' hl8' h8.ne hb9 hg9
          refine hK _ w9 ?_ hf8 (hc8.trans (Chg.gg hg9) fun i _ hi => .inl (by rw [hi, hf8.g]))
          exact h9)
      refine ldI_of (x := (S2.rows : Int)) (h6.blk.cells 0 _ rfl) ?_
      rw [hr2]
      refine cond_of (fun hlt => ?_) (fun hge => ?_)
      · have hlt := of_decide_eq_true hlt
        refine nw_blk fun w7 hb7 hB7 hs7 => ?_
        have h7 := h6.ext hB7
        obtain ⟨ls7, ho7, hl7⟩ := h7.row
        have hll7 := hl7.1
        refine ldSl_of (x := f6.ls) (h7.blk.cells 3 _ rfl) ?_
        refine ho7.rd.slK (l := 0) (m := rows) rfl (.inl ⟨rfl, rfl⟩) (.inr rfl) (by omega) (by omega) fun hpart => ?_
        refine apR (own0 hb7 (Nat.le_refl _)) hpart (by omega) (by simp; omega) fun q w8 ho8 hc8 hq8 => ?_
        have hfr : ∀ k, (⟨some ⟨w6.heap.size, 0, none⟩, 0, 0⟩ : Slc).blk = some k → k = w6.heap.size := fun k hk => by cases hk; rfl
        have notC : ∀ k cs, (⟨some ⟨w6.heap.size, 0, none⟩, 0, 0⟩ : Slc).blk = some k → ¬ Blk w7 k 42 cs := fun k cs hs hcs => by
          obtain rfl := hfr k hs
          exact hcs.ne_t hb7 (by decide) rfl
        have h8 := h7.chg hc8 (fun k hk hs => by have := hfr k hs; have := (h6.below k hk).2; omega) notC
        obtain ⟨os8, ho8', hl8'⟩ := h8.old
        have hl8 := ((hl7.chg hc8 notC).take rows).drop 0
        rw [add_mk]
        refine stK_blk h8.blk (by simp) fun w9 hb9 hg9 hs9 => ?_
        have hqf : ∀ k, q.blk = some k → w6.heap.size ≤ k := fun k hk => by
          rcases hq8 with e | e
          · rw [e] at hk; rw [hfr k hk]; exact Nat.le_refl _
          · rw [e] at hk; cases hk; omega
        have h9 := RefM.mk' (g := f6.g) (rows := S2.rows) (cols := S2.cols) (most := S2.most) (top := S2.top) h8.blk h6.hg (ho8.base (by omega)) hl8 ho8' hl8' (fun k hk e => by
          have := hqf k hk
          have := (h6.below k (.inr (.inr e))).2
          omega) hb9 hg9
        rw [List.drop_zero] at h9
        refine main4 _ w9 h9 rfl ⟨hg6, .inr fun k hk => by have := hqf k hk; omega, hf6.os⟩ ?_
        exact ((hc6.trans (Chg.of_ext (S := refS f) hB7) fun i _ hi => hi).trans hc8 fun i hi hs => by have := hfr i hs; omega).trans (Chg.gg hg9) fun i _ hi => .inl (by rw [hi, hg6])
      · have hge := of_decide_eq_false hge
        refine main4 f6 w6 ?_ rfl hf6 hc6
        rw [List.take_of_length_le (by omega)]
        exact h6)
    refine cond_of (fun hr => ?_) (fun hr => ?_)
    · have hr := of_decide_eq_true hr
      rw [if_pos hr] at main
      refine ldI_of (x := (S.rows : Int)) (h5.blk.cells 0 _ rfl) ?_
      rw [wrap64_id (x := row + 1) (by omega), wrap64_id (x := row + 1 - (rows : Int)) (by omega), wrap64_id (x := (rows : Int) - 1) (by omega)]
      refine rScroll_spec h5 hL1 hrows hold hmost (by omega) (by omega) htop fun f6 w6 h6 hf6 hc6 => ?_
      refine main f6 w6 ?_ ((RFoot.to.refl f w.heap.size).trans hf6 hS5) (hc5.trans hc6 fun i _ hi => hi)
      rw [resize2, if_pos hr]
      exact h6
    · have hr := of_decide_eq_false hr
      rw [if_neg hr] at main
      refine main f w5 ?_ (RFoot.to.refl _ _) hc5
      rw [resize2, if_neg hr]
      exact h5
end

end Go.Proofs.YtgejghejnibocaaDoor
