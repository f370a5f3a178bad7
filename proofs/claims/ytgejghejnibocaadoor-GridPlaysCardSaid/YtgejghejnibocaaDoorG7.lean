/- Grids of the program: Scroll. -/
import Derived.Test.YtgejghejnibocaaDoorG6
namespace Go.Proofs.YtgejghejnibocaaDoor
open Go.Vc Go.RowKit

theorem cut_block {x : Option Addr} {l m k : Nat} {a : Addr} (h : cut x l m k = some a) : ∃ b, x = some b ∧ a.block = b.block := by
  unfold cut at h
  split at h
  · exact ⟨a, h, rfl⟩
  · obtain ⟨b, hb, rfl⟩ := Option.map_eq_some_iff.1 h
    exact ⟨b, hb, by simp⟩

theorem gScroll_spec {w : World} {base : Nat} {f : Foot} {S : GS} {top past n : Int} {a : Attr} {K : Int → World → Prop} (h : GridM w base f S) (hL : S.L.length = S.rows) (hrows : S.rows ≤ 1000) (hmost : S.most ≤ 100000) (hbase : base ≤ w.heap.size) (hn : -9223372036854775808 ≤ n ∧ n ≤ 9223372036854775807)
    (hK : ∀ f' w', GridM w' base f' (scrollG S top past n a) → f.to f' w.heap.size → Chg (gridS f) w w' → K (scrollR S.rows top past n) w') : c_grid_Grid_Scroll (some ⟨f.g, 0, none⟩) top past n a w K := by
  refine call_grid_Grid_Scroll _ _ _ _ _ ?_
  unfold sh_grid_Grid_Scroll
  simp only [onPtr_some]
  refine nw_blk fun w1 hb1 hB1 hs1 => ?_
  have h1 := h.ext hB1
  refine joinP_of fun J1 hJ1 => ?_
  have bad : scrollBad S.rows top past n → K 0 w1 := fun hb => by
    have := hK f w1 (by rw [scrollG, if_pos hb]; exact h1) (Foot.to.refl _ _) (Chg.of_ext hB1)
    rwa [scrollR, if_pos (.inl hb)] at this
  refine cond_of (fun e => bad (.inl (eq_of_beq e))) (fun e0 => ?_)
  refine cond_of (fun e => bad (.inr (.inl (of_decide_eq_true e)))) (fun e1 => ?_)
  refine cond_of (fun e => bad (.inr (.inr (.inl (of_decide_eq_true e))))) (fun e2 => ?_)
  refine ldI_of (x := (S.rows : Int)) (h1.blk.cells 1 _ rfl) ?_
  refine cond_of (fun e => bad (.inr (.inr (.inr (of_decide_eq_true e))))) (fun e3 => ?_)
  have e0 : n ≠ 0 := beq_eq_false_iff_ne.1 e0
  have e1 := of_decide_eq_false e1
  have e2 := of_decide_eq_false e2
  have e3 := of_decide_eq_false e3
  have good : ¬ scrollBad S.rows top past n := by unfold scrollBad; omega
  refine hJ1 _ _ ?_
  rw [wrap64_id (x := past - top) (by omega), wrap64_id (x := 0 - (past - top)) (by omega)]
  refine joinP_of fun J2 hJ2 => ?_
  have hm : (scrollM top past n : Int) = min (if n < 0 then -n else n) (past - top) := by unfold scrollM; split <;> omega
  unfold scrollG scrollL at hK
  unfold scrollR at hK
  rw [if_neg good] at hK
  generalize scrollM top past n = m at *
  have hm0 : 1 ≤ m := by split at hm <;> omega
  have hm1 : (m : Int) ≤ past - top := by split at hm <;> omega
  obtain ⟨tp, rfl⟩ : ∃ tp : Nat, top = tp := ⟨top.toNat, by omega⟩
  obtain ⟨ps, rfl⟩ : ∃ ps : Nat, past = ps := ⟨past.toNat, by omega⟩
  have main : ∀ c : Int, (if IntKind.i64.wrap (0 - c) > c then IntKind.i64.wrap (0 - c) else c) = (m : Int) → J2 (c, ()) w1 := fun c hc => hJ2 _ _ (by
    dsimp only
    rw [hc]
    obtain ⟨ls, ho, hl⟩ := h1.row
    have hll := hl.1
    refine ldSl_of (x := f.ls) (h1.blk.cells 3 _ rfl) ?_
    refine ho.rd.slK3 (l := tp) (m := ps) rfl (.inr rfl) rfl rfl (by omega) (by omega) fun hpart => ?_
    have h1d := h1.drew
    have hod : Own slE w1.drew base f.ls ls := ho
    have hbd := hb1.drew
    refine cond_of (fun hneg => ?_) (fun hpos => ?_)
    · have hneg : n < 0 := by
        have : ¬ n > 0 := by simpa using hneg
        omega
      refine ldSl_of (x := f.ls) (h1d.blk.cells 3 _ rfl) ?_
      refine hod.rd.slK3 (l := 0) (m := tp) rfl (.inl ⟨rfl, rfl⟩) rfl rfl (by omega) (by omega) fun hfront => ?_
      refine ldS_of (x := a) hbd.cells ?_
      rw [wrap64_id (x := (ps : Int) - tp - m) (by omega)]
      refine hpart.drew.slK (l := 0) (m := ps - tp - m) rfl (.inl ⟨rfl, rfl⟩) (.inr (by simp; omega)) (by omega) (by simp; omega) fun hmid => ?_
      refine ldSl_of (x := f.ls) (h1d.blk.cells 3 _ rfl) ?_
      refine hod.rd.slK (l := ps) (m := ls.length) rfl (.inr rfl) (.inl ⟨rfl, rfl⟩) (by omega) (Nat.le_refl _) fun hback => ?_
      refine gblanks_spec h1d (by omega) fun b bls w4 hob hlb hB4 => ?_
      have hB14 : Below w1.heap.size w1 w4 := (Below.refl _ w1).drew.trans hB4
      have hB04 : Below w.heap.size w w4 := hB1.trans (hB14.mono hB1.size)
      have h4 := h1.ext hB14
      refine ⟨h4.blk.cells 3 _ rfl, h4.blk.cells 3 _ rfl, ?_⟩
      refine nw_blk fun w5 hb5 hB5 hs5 => ?_
      have hB45 : Below w1.drew.heap.size w1.drew w5 := hB4.trans (hB5.mono hB4.size)
      have hA := rdAllS4 (hfront.ext hB45) (hob.rd.ext hB5) (hmid.ext hB45) (hback.ext hB45)
      have hbl := hlb.1
      rw [List.length_replicate] at hbl
      refine ConcatS_spec ?_ hA ?_ (by simp) fun q w6 ho6 hB6 => ?_
      · exact rd_lits (E := sl2E) (ys := [_, _, _, _]) hb5 (by simp [maxLen]) rfl
      · simp; omega
      have hB06 : Below w.heap.size w w6 := hB04.trans ((hB5.trans (hB6.mono hB5.size)).mono hB04.size)
      have hB16 : Below w1.heap.size w1 w6 := hB14.trans ((hB5.trans (hB6.mono hB5.size)).mono hB14.size)
      have hB46 : Below w4.heap.size w4 w6 := hB5.trans (hB6.mono hB5.size)
      have h6 := h1.ext hB16
      have hl6 := hl.ext hB16
      have hs15 : w1.heap.size ≤ w5.heap.size := by have := hB14.size; have := hB5.size; omega
      have hs01 := hB1.size
      have hlb6 : Lines w6 base bls (List.replicate m (newL S.cols a)) := ⟨hlb.1, fun i t xs x1 x2 => ((hlb.2 i t xs x1 x2).ext hB46).base (by show base ≤ w1.heap.size; omega)⟩
      have hfresh : ∀ k, q.blk = some k → w.heap.size ≤ k := fun k hk => by have := (ho6.lt k hk).1; omega
      have hrow := ho6.base (base' := base) (by omega)
      have hlines := (((hl6.take tp).drop 0).append (hlb6.append (((((hl6.take ps).drop tp).take (ps - tp - m)).drop 0).append (((hl6.take ls.length).drop ps).append (Lines.nil w6 base)))))
      rw [add_mk]
      refine stK_blk h6.blk (by simp) fun w7 hb7 hg7 hs7 => ?_
      have h7 := h6.newRow (B := 0) (top := S.top) hrow hlines (fun k hk => ?_) hb7 hg7 (Nat.zero_le _)
      · have hneg' : ¬ (n > 0 ∧ (tp : Int) = 0) := by omega
        have hneg2 : ¬ n > 0 := by omega
        rw [if_neg hneg', if_neg hneg2, if_pos (.inr (.inl hneg))] at hK
        refine hK ⟨f.g, f.r, q, f.rs⟩ w7 ?_ ⟨rfl, rfl, .inr hfresh, .inl rfl⟩ ((Chg.of_ext (S := gridS f) hB06).trans (S' := fun k => k = f.g) (Chg.of_grown hg7 fun k hk => by cases hk; rfl) fun i _ hi => .inl hi)
        have e : List.take tp S.L ++ List.replicate m (newL S.cols a) ++ List.drop tp (List.take (ps - m) S.L) ++ List.drop ps S.L = List.drop 0 (List.take tp S.L) ++ (List.replicate m (newL S.cols a) ++ (List.drop 0 (List.take (ps - tp - m) (List.drop tp (List.take ps S.L))) ++ (List.drop ps (List.take ls.length S.L) ++ []))) := by
          rw [List.drop_zero, List.drop_zero, List.append_nil, take_drop_take, List.take_take, hll, List.take_length]
          rw [show min (tp + (ps - tp - m)) ps = ps - m by omega]
          simp
        rw [show ((tp : Int)).toNat = tp from rfl, show ((ps : Int)).toNat = ps from rfl, e]
        exact h7
      · have hk' := hfresh k hk
        refine ⟨fun e => ?_, fun e => ?_, fun e => ?_⟩
        · have := (h.below k (.inl e)).2; omega
        · have := (h.below k (.inr (.inl e))).2; omega
        · have := (h.below k (.inr (.inr (.inr e)))).2; omega
    · have hpos : n > 0 := by simpa using hpos
      refine hpart.drew.slK3 (l := 0) (m := m) rfl (.inl ⟨rfl, rfl⟩) rfl rfl (by omega) (by simp; omega) fun hgone => ?_
      refine ldSl_of (x := f.ls) (h1d.blk.cells 3 _ rfl) ?_
      refine hod.rd.slK3 (l := 0) (m := tp) rfl (.inl ⟨rfl, rfl⟩) rfl rfl (by omega) (by omega) fun hfront => ?_
      refine hpart.drew.slK (l := m) (m := ((ls.take ps).drop tp).length) rfl (.inr rfl) (.inl ⟨rfl, rfl⟩) (by simp; omega) (Nat.le_refl _) fun hrest => ?_
      refine ldS_of (x := a) hbd.cells ?_
      refine ldSl_of (x := f.ls) (h1d.blk.cells 3 _ rfl) ?_
      refine hod.rd.slK (l := ps) (m := ls.length) rfl (.inr rfl) (.inl ⟨rfl, rfl⟩) (by omega) (Nat.le_refl _) fun hback => ?_
      refine gblanks_spec h1d (by omega) fun b bls w4 hob hlb hB4 => ?_
      have hB14 : Below w1.heap.size w1 w4 := (Below.refl _ w1).drew.trans hB4
      have hB04 : Below w.heap.size w w4 := hB1.trans (hB14.mono hB1.size)
      have h4 := h1.ext hB14
      refine ⟨h4.blk.cells 3 _ rfl, h4.blk.cells 3 _ rfl, ?_⟩
      refine nw_blk fun w5 hb5 hB5 hs5 => ?_
      have hB45 : Below w1.drew.heap.size w1.drew w5 := hB4.trans (hB5.mono hB4.size)
      have hA := rdAllS4 (hfront.ext hB45) (hrest.ext hB45) (hob.rd.ext hB5) (hback.ext hB45)
      have hbl := hlb.1
      rw [List.length_replicate] at hbl
      refine ConcatS_spec ?_ hA ?_ (by simp) fun q w6 ho6 hB6 => ?_
      · exact rd_lits (E := sl2E) (ys := [_, _, _, _]) hb5 (by simp [maxLen]) rfl
      · simp; omega
      have hB06 : Below w.heap.size w w6 := hB04.trans ((hB5.trans (hB6.mono hB5.size)).mono hB04.size)
      have hB16 : Below w1.heap.size w1 w6 := hB14.trans ((hB5.trans (hB6.mono hB5.size)).mono hB14.size)
      have hB46 : Below w4.heap.size w4 w6 := hB5.trans (hB6.mono hB5.size)
      have h6 := h1.ext hB16
      have hl6 := hl.ext hB16
      have hs15 : w1.heap.size ≤ w5.heap.size := by have := hB14.size; have := hB5.size; omega
      have hs01 := hB1.size
      have hlb6 : Lines w6 base bls (List.replicate m (newL S.cols a)) := ⟨hlb.1, fun i t xs x1 x2 => ((hlb.2 i t xs x1 x2).ext hB46).base (by show base ≤ w1.heap.size; omega)⟩
      have hfresh : ∀ k, q.blk = some k → w.heap.size ≤ k := fun k hk => by have := (ho6.lt k hk).1; omega
      have hrow := ho6.base (base' := base) (by omega)
      have hlines := (((hl6.take tp).drop 0).append (((((hl6.take ps).drop tp).take ((ls.take ps).drop tp).length).drop m).append (hlb6.append (((hl6.take ls.length).drop ps).append (Lines.nil w6 base)))))
      rw [add_mk]
      refine stK_blk h6.blk (by simp) fun w7 hb7 hg7 hs7 => ?_
      have hqne : ∀ k, q.blk = some k → k ≠ f.g ∧ k ≠ f.r ∧ f.rs.blk ≠ some k := fun k hk => by
        have hk' := hfresh k hk
        refine ⟨fun e => ?_, fun e => ?_, fun e => ?_⟩
        · have := (h.below k (.inl e)).2; omega
        · have := (h.below k (.inr (.inl e))).2; omega
        · have := (h.below k (.inr (.inr (.inr e)))).2; omega
      have h7 := h6.newRow (B := 0) (top := S.top) hrow hlines hqne hb7 hg7 (Nat.zero_le _)
      have e : List.take tp S.L ++ List.drop (tp + m) (List.take ps S.L) ++ List.replicate m (newL S.cols a) ++ List.drop ps S.L = List.drop 0 (List.take tp S.L) ++ (List.drop m (List.take ((ls.take ps).drop tp).length (List.drop tp (List.take ps S.L))) ++ (List.replicate m (newL S.cols a) ++ (List.drop ps (List.take ls.length S.L) ++ []))) := by
        have e1 : ((ls.take ps).drop tp).length = ((S.L.take ps).drop tp).length := by simp [hll]
        rw [List.drop_zero, List.append_nil, e1, List.take_length, hll, List.take_length, List.drop_drop]
        simp
      have hc7 : Chg (gridS f) w w7 := (Chg.of_ext (S := gridS f) hB06).trans (S' := fun k => k = f.g) (Chg.of_grown hg7 fun k hk => by cases hk; rfl) fun i _ hi => .inl hi
      rw [if_pos hpos, show ((tp : Int)).toNat = tp from rfl, show ((ps : Int)).toNat = ps from rfl, e] at hK
      refine cond_of (fun ht => ?_) (fun ht => ?_)
      · have ht : (tp : Int) ≠ 0 := by simpa using ht
        rw [if_neg (fun hh => ht hh.2), if_pos (.inr (.inr ht))] at hK
        exact hK ⟨f.g, f.r, q, f.rs⟩ w7 h7 ⟨rfl, rfl, .inr hfresh, .inl rfl⟩ hc7
      · have ht : (tp : Int) = 0 := by simpa using ht
        rw [if_pos ⟨hpos, ht⟩, if_neg (by rintro (hh | hh | hh); exact good hh; omega; exact hh ht)] at hK
        have hB17 : Chg (fun k => k = f.g) w6 w7 := Chg.of_grown hg7 fun k hk => by cases hk; rfl
        obtain ⟨g1, g2, g3⟩ := h1.g_ne
        have hgone6 := hgone.ext (w' := w6) (hB45.trans (hB6.mono hB45.size))
        have hbr : Own slE w7 base q _ := hrow.chg hB17 fun k hk => (hqne k hk).1
        have notr : ∀ k cs, k = f.g → ¬ Blk w6 k 42 cs := fun k cs hk hc => h6.notC k cs (.inl hk) hc
        have hgone7 : Rd slE w7 _ _ := hgone6.chg hB17 fun x hx hs => by
          obtain ⟨y, hy, e1⟩ := cut_block hx
          obtain ⟨z, hz, e2⟩ := cut_block hy
          exact (g2 z.block (by simp [Slc.blk, hz])).1 (by rw [← e2, ← e1]; exact hs)
        have hlg := ((((hl6.take ps).drop tp).take m).drop 0).chg hB17 notr
        refine pushes (f := ⟨f.g, f.r, q, f.rs⟩) (m := m) h7 hgone7 (by simp; omega) hlg (fun x hx hs => ?_) hmost (by have := hB06.size; have := hg7.size; omega) (by omega) fun i f' w8 h8 hf8 hfl8 hc8 => ?_
        · obtain ⟨y, hy, e1⟩ := cut_block hx
          obtain ⟨z, hz, e2⟩ := cut_block hy
          have hzb : f.ls.blk = some z.block := by simp [Slc.blk, hz]
          rw [e1, e2] at hs
          rcases hs with e | e | e | e
          · exact (g2 _ hzb).1 e
          · exact (g2 _ hzb).2 e
          · have := hfresh _ e
            have := (h.below _ (.inr (.inr (.inl hzb)))).2
            omega
          · exact h.ne _ hzb e
        · have hb8 := h8.blk
          have hfg : f'.g = f.g := hf8.g
          rw [hfg] at hb8
          refine ldI_of (x := S.top) (hb8.cells 4 _ rfl) ?_
          rw [add_mk]
          refine stK_blk hb8 (by simp) fun w9 hb9 hg9 hs9 => ?_
          obtain ⟨ls8, ho8, hl8⟩ := h8.row
          obtain ⟨k1, k2, k3⟩ := h8.g_ne
          have hto : f.to ⟨f.g, f.r, q, f.rs⟩ w.heap.size := ⟨rfl, rfl, .inr hfresh, .inl rfl⟩
          have h9 := h8.newRow (B := 0) (w2 := w9) (top := IntKind.i64.wrap (S.top + m)) ho8 hl8 (fun k hk => ⟨(k2 k hk).1, (k2 k hk).2, h8.ne k hk⟩) (by rw [hfg]; exact hb9) (by rw [hfg]; exact hg9) (Nat.zero_le _)
          have hsz7 : w.heap.size ≤ w7.heap.size := by have := hB06.size; have := hg7.size; omega
          refine hK f' w9 ?_ (hto.trans hf8 hsz7) ((hc7.trans hc8 fun i hi hs => ?_).trans (S' := fun k => k = f.g) (Chg.of_grown hg9 fun k hk => by cases hk; rfl) fun i _ hi => .inl hi)
          · have ep : List.take m S.L = List.drop 0 (List.take m (List.drop tp (List.take ps S.L))) := by
              have : tp = 0 := by omega
              subst this
              rw [List.drop_zero, List.drop_zero, List.take_take, Nat.min_eq_left (by omega)]
            rw [ep]
            exact h9
          · rcases hto.old i hs with e | e
            · exact e
            · omega)
  refine cond_of (fun c1 => main _ ?_) (fun c1 => cond_of (fun c2 => main _ ?_) (fun c2 => main _ ?_))
  · have c1 := of_decide_eq_true c1
    rw [wrap64_id (by omega)]
    split at hm <;> split <;> omega
  · have c2 := of_decide_eq_true c2
    rw [wrap64_id (by omega)]
    split at hm <;> split <;> omega
  · have c1 := of_decide_eq_false c1
    have c2 := of_decide_eq_false c2
    rw [wrap64_id (by omega)]
    split at hm <;> split <;> omega

end Go.Proofs.YtgejghejnibocaaDoor
