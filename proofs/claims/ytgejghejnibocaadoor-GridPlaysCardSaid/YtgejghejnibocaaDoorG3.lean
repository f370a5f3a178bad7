/- Grids of the program: what they are in memory; is, Size, Top, Back, First, Line, Old, blanks, Clear, Set, New. -/
import Derived.Test.YtgejghejnibocaaDoorG2
namespace Go.Proofs.YtgejghejnibocaaDoor
open Go.Vc Go.RowKit

structure Foot where
  g : Nat
  r : Nat
  ls : Slc
  rs : Slc
structure GS where
  rows : Nat
  cols : Nat
  most : Nat
  L : List (List Cell)
  old : List (List Cell)
  top : Int

/-- A grid's own blocks (its lines' cells apart, which are never written). -/
def gridS (f : Foot) (k : Nat) : Prop := k = f.g ∨ k = f.r ∨ f.ls.blk = some k ∨ f.rs.blk = some k
structure GridM (w : World) (base : Nat) (f : Foot) (S : GS) : Prop where
  blk : Blk w f.g 118 [.pointer (some ⟨f.r, 0, none⟩), .int .i64 S.rows, .int .i64 S.cols, .slice f.ls.a f.ls.n f.ls.c, .int .i64 S.top]
  hg : base ≤ f.g
  row : ∃ ls, Own slE w base f.ls ls ∧ Lines w base ls S.L
  ring : RingM w base f.r f.rs S.most S.old
  ne : ∀ k, f.ls.blk = some k → f.rs.blk ≠ some k
/-- The blocks of the later footprint are the elder's, or new. -/
structure Foot.to (f f' : Foot) (n : Nat) : Prop where
  g : f'.g = f.g
  r : f'.r = f.r
  ls : f'.ls.blk = f.ls.blk ∨ ∀ k, f'.ls.blk = some k → n ≤ k
  rs : f'.rs.blk = f.rs.blk ∨ ∀ k, f'.rs.blk = some k → n ≤ k
theorem Foot.to.refl (f : Foot) (n : Nat) : f.to f n := ⟨rfl, rfl, .inl rfl, .inl rfl⟩
theorem Foot.to.old {f f' : Foot} {n : Nat} (h : f.to f' n) : ∀ k, gridS f' k → gridS f k ∨ n ≤ k := by
  rintro k (rfl | rfl | hk | hk)
  · exact .inl (.inl h.g)
  · exact .inl (.inr (.inl h.r))
  · rcases h.ls with e | e
    · exact .inl (.inr (.inr (.inl (by rw [← e]; exact hk))))
    · exact .inr (e k hk)
  · rcases h.rs with e | e
    · exact .inl (.inr (.inr (.inr (by rw [← e]; exact hk))))
    · exact .inr (e k hk)
theorem Foot.to.trans {f f' f'' : Foot} {n n' : Nat} (h : f.to f' n) (h' : f'.to f'' n') (hn : n ≤ n') : f.to f'' n := by
  refine ⟨h'.g.trans h.g, h'.r.trans h.r, ?_, ?_⟩
  · rcases h'.ls with e | e
    · rcases h.ls with e' | e'
      · exact .inl (e.trans e')
      · exact .inr fun k hk => e' k (by rw [← e]; exact hk)
    · exact .inr fun k hk => Nat.le_trans hn (e k hk)
  · rcases h'.rs with e | e
    · rcases h.rs with e' | e'
      · exact .inl (e.trans e')
      · exact .inr fun k hk => e' k (by rw [← e]; exact hk)
    · exact .inr fun k hk => Nat.le_trans hn (e k hk)

section
variable {w w' : World} {base r most : Nat} {s : Slc} {old : List (List Cell)} {f : Foot} {S : GS}
theorem RingM.chg {T : Nat → Prop} (h : RingM w base r s most old) (hc : Chg T w w') (hT : ∀ k, ringS r s k → ¬ T k) (hC : ∀ k cs, T k → ¬ Blk w k 42 cs) : RingM w' base r s most old := by
  obtain ⟨at_, gone, ls, xss, hb, ho, hl, hbr, e, hm, ha⟩ := h
  exact ⟨at_, gone, ls, xss, hb.chg hc (hT r (.inl rfl)), ho.chg hc fun g hg => hT g (.inr hg), hl.chg hc hC, hbr, e, hm, ha⟩
theorem RingM.ext (h : RingM w base r s most old) (hb : Below w.heap.size w w') : RingM w' base r s most old :=
  h.chg (Chg.of_ext (S := fun _ => False) hb) (fun _ _ h => h) (fun _ _ h => h.elim)
theorem GridM.chg {T : Nat → Prop} (h : GridM w base f S) (hc : Chg T w w') (hT : ∀ k, gridS f k → ¬ T k) (hC : ∀ k cs, T k → ¬ Blk w k 42 cs) : GridM w' base f S := by
  obtain ⟨ls, ho, hl⟩ := h.row
  exact ⟨h.blk.chg hc (hT _ (.inl rfl)), h.hg, ⟨ls, ho.chg hc fun g hg => hT g (.inr (.inr (.inl hg))), hl.chg hc hC⟩,
    h.ring.chg hc (fun k hk => hT k (by rcases hk with hk | hk; exact .inr (.inl hk); exact .inr (.inr (.inr hk)))) hC, h.ne⟩
theorem GridM.ext (h : GridM w base f S) (hb : Below w.heap.size w w') : GridM w' base f S :=
  h.chg (Chg.of_ext (S := fun _ => False) hb) (fun _ _ h => h) (fun _ _ h => h.elim)
theorem GridM.drew (h : GridM w base f S) : GridM w.drew base f S := h.ext ((Below.refl _ w).drew)
theorem RingM.below (h : RingM w base r s most old) : ∀ k, ringS r s k → base ≤ k ∧ k < w.heap.size := by
  obtain ⟨at_, gone, ls, xss, hb, ho, hl, hbr, e, hm, ha⟩ := h
  rintro k (rfl | hk)
  · exact ⟨hbr, hb.lt⟩
  · exact ho.lt k hk
theorem GridM.below (h : GridM w base f S) : ∀ k, gridS f k → base ≤ k ∧ k < w.heap.size := by
  obtain ⟨ls, ho, hl⟩ := h.row
  rintro k (rfl | rfl | hk | hk)
  · exact ⟨h.hg, h.blk.lt⟩
  · exact h.ring.below _ (.inl rfl)
  · exact ho.lt k hk
  · exact h.ring.below _ (.inr hk)
theorem RingM.notC (h : RingM w base r s most old) : ∀ k cs, ringS r s k → ¬ Blk w k 42 cs := by
  obtain ⟨at_, gone, ls, xss, hb, ho, hl, hbr, e, hm, ha⟩ := h
  rintro k cs (rfl | hk) hc
  · exact hc.ne_t hb (by decide) rfl
  · obtain ⟨cs', hcs'⟩ := ho.blk_t hk
    exact hc.ne_t hcs' (by decide) rfl
theorem GridM.notC (h : GridM w base f S) : ∀ k cs, gridS f k → ¬ Blk w k 42 cs := by
  obtain ⟨ls, ho, hl⟩ := h.row
  rintro k cs (rfl | rfl | hk | hk) hc
  · exact hc.ne_t h.blk (by decide) rfl
  · exact h.ring.notC _ cs (.inl rfl) hc
  · obtain ⟨cs', hcs'⟩ := ho.blk_t hk
    exact hc.ne_t hcs' (by decide) rfl
  · exact h.ring.notC _ cs (.inr hk) hc
/-- The grid's block apart from the ring's blocks and the rows. -/
theorem GridM.g_ne (h : GridM w base f S) : f.g ≠ f.r ∧ (∀ k, f.ls.blk = some k → k ≠ f.g ∧ k ≠ f.r) ∧ (∀ k, f.rs.blk = some k → k ≠ f.g ∧ k ≠ f.r) := by
  obtain ⟨ls, ho, hl⟩ := h.row
  obtain ⟨at_, gone, ls', xss, hb, ho', hl', hbr, e, hm, ha⟩ := h.ring
  refine ⟨h.blk.ne_t hb (by decide), fun k hk => ?_, fun k hk => ?_⟩
  · obtain ⟨cs, hcs⟩ := ho.blk_t hk
    exact ⟨hcs.ne_t h.blk (by decide), hcs.ne_t hb (by decide)⟩
  · obtain ⟨cs, hcs⟩ := ho'.blk_t hk
    exact ⟨hcs.ne_t h.blk (by decide), hcs.ne_t hb (by decide)⟩
end

section
variable {w : World} {base : Nat} {f : Foot} {S : GS}
theorem gis_spec {row : Int} {K : Bool → World → Prop} (h : GridM w base f S) (hK : K (decide (0 ≤ row ∧ row < S.rows)) w) : c_grid_Grid_is (some ⟨f.g, 0, none⟩) row w K := by
  refine call_grid_Grid_is _ _ ?_
  unfold sh_grid_Grid_is
  simp only [onPtr_some]
  refine cond_of (fun h0 => ?_) (fun h0 => ?_)
  · have h0 : 0 ≤ row := of_decide_eq_true h0
    refine ldI_of (x := (S.rows : Int)) (h.blk.cells 1 _ rfl) ?_
    have : decide (row < (S.rows : Int)) = decide (0 ≤ row ∧ row < S.rows) := by simp [h0]
    rw [this]; exact hK
  · have h0 := of_decide_eq_false h0
    have : decide (0 ≤ row ∧ row < (S.rows : Int)) = false := by simp; omega
    rw [this] at hK; exact hK
theorem gTop_spec {K : Int → World → Prop} (h : GridM w base f S) (hK : K S.top w) : c_grid_Grid_Top (some ⟨f.g, 0, none⟩) w K := by
  refine call_grid_Grid_Top _ ?_
  unfold sh_grid_Grid_Top
  simp only [onPtr_some]
  exact ldI_of (x := S.top) (h.blk.cells 4 _ rfl) hK
theorem gSize_spec {K : Int → Int → World → Prop} (h : GridM w base f S) (hK : K S.rows S.cols w.drew) : c_grid_Grid_Size (some ⟨f.g, 0, none⟩) w K := by
  refine call_grid_Grid_Size _ ?_
  unfold sh_grid_Grid_Size
  simp only [onPtr_some]
  exact ldI_of (x := (S.rows : Int)) (h.blk.drew.cells 1 _ rfl) (ldI_of (x := (S.cols : Int)) (h.blk.drew.cells 2 _ rfl) hK)
theorem gBack_spec {K : Int → World → Prop} (h : GridM w base f S) (hK : K S.old.length w) : c_grid_Grid_Back (some ⟨f.g, 0, none⟩) w K := by
  refine call_grid_Grid_Back _ ?_
  unfold sh_grid_Grid_Back
  simp only [onPtr_some]
  refine ldP_of (x := some ⟨f.r, 0, none⟩) (h.blk.cells 0 _ rfl) ?_
  exact RingLen_spec h.ring hK
theorem gFirst_spec {K : Int → World → Prop} (h : GridM w base f S) (hK : K (IntKind.i64.wrap (S.top - S.old.length)) w.drew) : c_grid_Grid_First (some ⟨f.g, 0, none⟩) w K := by
  refine call_grid_Grid_First _ ?_
  unfold sh_grid_Grid_First
  simp only [onPtr_some]
  refine ldI_of (x := S.top) (h.blk.drew.cells 4 _ rfl) ?_
  refine gBack_spec h.drew ?_
  exact ⟨h.blk.drew.cells 4 _ rfl, hK⟩
theorem gLine_spec {row : Int} {K : Slc → Bool → World → Prop} (h : GridM w base f S) (hL : S.L.length = S.rows) (hw : ∀ xs ∈ S.L, xs.length ≤ 1000000)
    (hK1 : ∀ s xs w', 0 ≤ row → S.L[row.toNat]? = some xs → Own cellE w' w.heap.size s xs → Below w.heap.size w w' → K s true w') (hK2 : ¬ (0 ≤ row ∧ row < S.rows) → K ⟨none, 0, 0⟩ false w) : c_grid_Grid_Line (some ⟨f.g, 0, none⟩) row w K := by
  refine call_grid_Grid_Line _ _ ?_
  unfold sh_grid_Grid_Line
  refine gis_spec h ?_
  simp only [onPtr_some]
  obtain ⟨ls, ho, hl⟩ := h.row
  by_cases hr : 0 ≤ row ∧ row < (S.rows : Int)
  · rw [decide_eq_true hr]
    refine cond_f rfl ?_
    refine ldSl_of (x := f.ls) (h.blk.cells 3 _ rfl) ?_
    have hll := hl.1
    refine ho.rd.ix rfl hr.1 (by omega) fun hc => ?_
    refine ldSl_of (x := ls[row.toNat]'(by omega)) (by simpa using hc 0 _ rfl) ?_
    have hx : S.L[row.toNat]? = some (S.L[row.toNat]'(by omega)) := List.getElem?_eq_getElem _
    have hown := hl.2 _ _ _ (List.getElem?_eq_getElem (by omega : row.toNat < ls.length)) hx
    exact Clone_spec hown.rd (hw _ (List.mem_of_getElem? hx)) fun s w' ho' hB => hK1 s _ w' hr.1 hx ho' hB
  · rw [decide_eq_false hr]
    exact cond_t rfl (hK2 hr)
theorem gOld_spec {i : Int} {K : Slc → Bool → World → Prop} (h : GridM w base f S) (hm : S.most ≤ 100000) (hw : ∀ xs ∈ S.old, xs.length ≤ 1000000)
    (hK1 : ∀ s xs w', 0 ≤ i → S.old[i.toNat]? = some xs → Own cellE w' w.heap.size s xs → Below w.heap.size w w' → K s true w') (hK2 : (i < 0 ∨ i ≥ S.old.length) → ∀ s w', Own cellE w' w.heap.size s [] → Below w.heap.size w w' → K s false w') : c_grid_Grid_Old (some ⟨f.g, 0, none⟩) i w K := by
  refine call_grid_Grid_Old _ _ ?_
  unfold sh_grid_Grid_Old
  simp only [onPtr_some]
  refine ldP_of (x := some ⟨f.r, 0, none⟩) (h.blk.cells 0 _ rfl) ?_
  refine RingAt_spec h.ring hm (fun t xs h0 hx ht => ?_) (fun hn => ?_)
  · exact Clone_spec ht.drew.rd (hw _ (List.mem_of_getElem? hx)) fun s w' ho' hB => hK1 s xs w' h0 hx ho' ((Below.refl _ w).drew.trans hB)
  · exact Clone_spec (Rd.nil cellE w) (by simp) fun s w' ho' hB => hK2 hn s w' ho' hB
end

end Go.Proofs.YtgejghejnibocaaDoor
