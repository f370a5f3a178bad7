/- Grids of the reference: leave, Scroll. -/
import Derived.Test.YtgejghejnibocaaDoorR1
namespace Go.Proofs.YtgejghejnibocaaDoor
open Go.Vc Go.RowKit

/-- append onto a row of one's own that stands above a mark: what stands below the mark stays. -/
theorem apR {w : World} {b : Nat} {s x : Slc} {xs ys : List Slc} {K : Slc → World → Prop} (hown : Own sl24E w b s xs) (hx : Rd sl24E w x ys) (hb : b ≤ w.heap.size) (hl : xs.length + ys.length ≤ 1000000)
    (hK : ∀ r w', Own sl24E w' b r (xs ++ ys) → Chg (fun k => s.blk = some k) w w' → (r.blk = s.blk ∨ r.blk = some w.heap.size) → K r w') : apK Tryd.prog #[86, 86] 86 s x w K :=
  apK_own slT86 hown hx hb (by rw [by86]; omega) (by simp only [maxLen]; omega) fun r w' h1 h2 h3 => hK r w' h1 (Chg.of_grown h2 fun k hk => hk) h3
theorem own0 {w : World} {g b : Nat} (hb : Blk w g 24 []) (hg : b ≤ g) : Own sl24E w b ⟨some ⟨g, 0, none⟩, 0, 0⟩ [] := own_empty (E := sl24E) hb hg

section
variable {w w' w1 w2 : World} {base : Nat} {f : RFoot} {S : GS}

theorem rleave_spec {t : Slc} {xs : List Cell} {K : World → Prop} (h : RefM w base f S) (ht : Own cellE w base t xs) (hold : S.old.length ≤ S.most) (hmost : S.most ≤ 100000) (hbase : base ≤ w.heap.size) (htop : -1000000000 ≤ S.top ∧ S.top ≤ 1000000000)
    (hK : ∀ f' w', RefM w' base f' { S with old := pushL S.most S.old xs, top := S.top + 1 } → f.to f' w.heap.size → f'.ls = f.ls → Chg (refS f) w w' → K w') : c_phosphorref16_Grid_leave (some ⟨f.g, 0, none⟩) t w K := by
  refine call_phosphorref16_Grid_leave _ _ ?_
  unfold sh_phosphorref16_Grid_leave
  simp only [onPtr_some]
  refine ldSl_of (x := f.os) (h.blk.cells 4 _ rfl) ?_
  refine nw_blk fun w1 hb1 hB1 hs1 => ?_
  have h1 := h.ext hB1
  obtain ⟨ls, ho, hl⟩ := h1.row
  obtain ⟨os, ho', hl'⟩ := h1.old
  have hll' := hl'.1
  have hr1 : Rd sl24E w1 ⟨some ⟨w.heap.size, 0, none⟩, 1, 1⟩ [t] := rd_one (E := sl24E) hb1 rfl
  refine apR ho' hr1 (by omega) (by simp; omega) fun q w2 ho2 hc2 hq2 => ?_
  have notC : ∀ k cs, f.os.blk = some k → ¬ Blk w1 k 42 cs := fun k cs hk => h1.notC k cs (.inr (.inr hk))
  obtain ⟨g2, g3⟩ := h1.g_ne
  have hb2 := h1.blk.chg hc2 fun e => g3 _ e rfl
  have ht1 := ht.ext hB1
  have hl2' := (hl'.chg hc2 notC).append (Lines.one (ht1.chg hc2 fun g hg hs => by
    obtain ⟨cs, hcs⟩ := ht1.blk_t hg
    exact notC g cs hs hcs))
  have ho2' := ho.chg hc2 fun k hk hs => h1.ne k hk hs
  have hl2 := hl.chg hc2 notC
  have hqf : q.blk = f.os.blk ∨ ∀ k, q.blk = some k → w.heap.size ≤ k := by
    rcases hq2 with e | e
    · exact .inl e
    · exact .inr fun k hk => by rw [e] at hk; cases hk; omega
  have hne : ∀ k, f.ls.blk = some k → q.blk ≠ some k := fun k hk e => by
    rcases hq2 with e' | e'
    · exact h1.ne k hk (by rw [← e']; exact e)
    · rw [e'] at e
      cases e
      have := (ho.lt _ hk).2
      omega
  rw [add_mk]
  refine stK_blk hb2 (by simp) fun w3 hb3 hg3 hs3 => ?_
  have h3 : RefM w3 base ⟨f.g, f.ls, q⟩ { S with old := S.old ++ [xs] } := RefM.mk' (g := f.g) hb2 h.hg ho2' hl2 ho2 hl2' hne hb3 hg3
  have hc3 : Chg (refS f) w w3 := ((Chg.of_ext (S := refS f) hB1).trans hc2 fun i _ hi => .inr (.inr hi)).trans (Chg.gg hg3) fun i _ hi => .inl hi
  have hsz3 := hc3.size
  refine joinP_of fun J hJ => ?_
  have fin : ∀ (o : Slc) (L : List (List Cell)) w4, RefM w4 base ⟨f.g, f.ls, o⟩ { S with old := L } → L = pushL S.most S.old xs → (o.blk = f.os.blk ∨ ∀ k, o.blk = some k → w.heap.size ≤ k) → Chg (refS f) w w4 → J ((), ()).1 w4 := fun o L w4 h4 e hof hc4 => hJ _ _ (by
    refine ldI_of (x := S.top) (h4.blk.cells 5 _ rfl) ?_
    rw [add_mk, wrap64_id (by omega)]
    refine stK_blk h4.blk (by simp) fun w5 hb5 hg5 hs5 => ?_
    obtain ⟨ls4, ho4, hl4⟩ := h4.row
    obtain ⟨os4, ho4', hl4'⟩ := h4.old
    have h5 : RefM w5 base ⟨f.g, f.ls, o⟩ { S with old := L, top := S.top + 1 } := RefM.mk' (g := f.g) h4.blk h.hg ho4 hl4 ho4' hl4' h4.ne hb5 hg5
    rw [e] at h5
    exact hK _ w5 h5 ⟨rfl, .inl rfl, hof⟩ rfl (hc4.trans (Chg.gg hg5) fun i _ hi => .inl hi))
  have h3d := h3.drew
  refine ldSl_of (x := q) (h3d.blk.cells 4 _ rfl) ?_
  refine ldI_of (x := (S.most : Int)) (h3d.blk.cells 2 _ rfl) ?_
  have hqn : q.n = S.old.length + 1 := by rw [ho2.rd.n]; simp [hll']
  rw [hqn]
  refine cond_of (fun hlt => ?_) (fun hge => ?_)
  · have hlt : ((S.old.length + 1 : Nat) : Int) > S.most := of_decide_eq_true hlt
    refine nw_blk fun w4 hb4 hB4 hs4 => ?_
    have hB34 : Below w3.heap.size w3 w4 := (Below.refl _ w3).drew.trans hB4
    have h4 := h3.ext hB34
    obtain ⟨ls4, ho4, hl4⟩ := h4.row
    obtain ⟨os4, ho4', hl4'⟩ := h4.old
    have hll4 := hl4'.1
    rw [show ({ S with old := S.old ++ [xs] } : GS).old = S.old ++ [xs] from rfl, List.length_append, List.length_singleton] at hll4
    refine ldSl_of (x := q) (h4.blk.cells 4 _ rfl) ?_
    refine ho4'.rd.slK (l := 1) (m := os4.length) rfl (.inr rfl) (.inl ⟨rfl, rfl⟩) (by omega) (Nat.le_refl _) fun hpart => ?_
    have hs34 : w3.heap.size ≤ w4.heap.size := hB34.size
    have hsd : w3.drew.heap.size = w3.heap.size := rfl
    refine apR (own0 hb4 (show base ≤ w3.drew.heap.size by rw [hsd]; omega)) hpart (by omega) (by simp; omega) fun o w5 ho5 hc5 hq5 => ?_
    have hfr : ∀ k, (⟨some ⟨w3.drew.heap.size, 0, none⟩, 0, 0⟩ : Slc).blk = some k → k = w3.heap.size := fun k hk => by cases hk; rfl
    have h5d : RefM w5 base ⟨f.g, f.ls, q⟩ { S with old := S.old ++ [xs] } := (h3.ext hB34).chg hc5 (fun k hk hs => by
      have := (h3.below k hk).2
      have := hfr k hs
      omega) fun k cs hs hcs => by
        obtain rfl := hfr k hs
        exact hcs.ne_t hb4 (by decide) rfl
    obtain ⟨ls5, ho5r, hl5r⟩ := h5d.row
    have hl5' := (hl4'.chg hc5 fun k cs hs hcs => by
      obtain rfl := hfr k hs
      exact hcs.ne_t hb4 (by decide) rfl).drop 1
    refine stK_blk h5d.blk (by simp) fun w6 hb6 hg6 hs6 => ?_
    have hof : ∀ k, o.blk = some k → w3.heap.size ≤ k := fun k hk => by
      rcases hq5 with e | e
      · rw [e] at hk; rw [hfr k hk]; exact Nat.le_refl _
      · rw [e] at hk; cases hk; omega
    rw [List.nil_append, List.take_length] at ho5
    have h6 : RefM w6 base ⟨f.g, f.ls, o⟩ { S with old := (S.old ++ [xs]).drop 1 } := RefM.mk' (g := f.g) h5d.blk h.hg ho5r hl5r ho5 hl5' (fun k hk e => by
      have := hof k e
      have := (h3.below k (.inr (.inl hk))).2
      omega) hb6 hg6
    refine fin o _ w6 h6 ?_ (.inr fun k hk => by have := hof k hk; omega) ?_
    · unfold pushL
      by_cases hm : S.most = 0
      · rw [if_pos hm]
        have : S.old = [] := List.eq_nil_of_length_eq_zero (by omega)
        rw [this]; rfl
      · rw [if_neg hm, if_neg (by omega), List.drop_one, List.tail_append_of_ne_nil (by intro e; rw [e] at hlt; simp at hlt; omega)]
    · exact ((hc3.trans (Chg.of_ext (S := refS f) hB34) fun i _ hi => hi).trans hc5 fun i hi hs => by have := hfr i hs; omega).trans (Chg.gg hg6) fun i _ hi => .inl hi
  · have hge : ¬ ((S.old.length + 1 : Nat) : Int) > S.most := of_decide_eq_false hge
    refine fin q _ w3.drew h3.drew ?_ hqf ⟨hc3.os, hc3.tape, hc3.output, hc3.size, hc3.block⟩
    unfold pushL
    rw [if_neg (by omega), if_pos (by omega)]
end

end Go.Proofs.YtgejghejnibocaaDoor
