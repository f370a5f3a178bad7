/- Grids of the program: blanks, Clear, Set, Forget, New. -/
import Derived.Test.YtgejghejnibocaaDoorG3
namespace Go.Proofs.YtgejghejnibocaaDoor
open Go.Vc Go.RowKit

theorem newL_length {n : Nat} (h : n ≤ 1000) (a : Attr) : (newL n a).length = n := by
  rw [newL, if_neg (by omega)]
  simp

section
variable {w : World} {base : Nat} {f : Foot} {S : GS}
theorem gblanks_spec {n : Int} {a : Attr} {K : Slc → World → Prop} (h : GridM w base f S) (hn : n ≤ 100000)
    (hK : ∀ s ls w', Own slE w' w.heap.size s ls → Lines w' w.heap.size ls (List.replicate n.toNat (newL S.cols a)) → Below w.heap.size w w' → K s w') : c_grid_Grid_blanks (some ⟨f.g, 0, none⟩) n a w K := by
  refine call_grid_Grid_blanks _ _ _ ?_
  unfold sh_grid_Grid_blanks
  simp only [onPtr_some]
  refine nw_blk fun w1 hb1 hB1 hs1 => ?_
  refine loopP_rule (fun (s : Slc × Int × Unit) w2 => ∃ (k : Nat) (ls : List Slc), s.2.1 = k ∧ (k : Int) ≤ max n 0 ∧ Own slE w2 w.heap.size s.1 ls ∧ Lines w2 w.heap.size ls (List.replicate k (newL S.cols a)) ∧ Blk w2 w.heap.size 23 (T_api_Attr.rep.cells a) ∧ Below w.heap.size w w2 ∧ (∀ g, s.1.blk = some g → g ≠ w.heap.size))
    (fun s => (n - s.2.1).toNat) ⟨0, [], rfl, by omega, Own.nil _ _ _, Lines.nil _ _, hb1, hB1, fun g hg => by cases hg⟩ ?_
  rintro ⟨s, i, _⟩ w2 ⟨k, ls, rfl, hk, ho, hl, hb, hB, hne⟩ I hI
  dsimp only at *
  refine cond_of (fun hh => ?_) (fun hh => ?_)
  · have hh := of_decide_eq_true hh
    have hg2 := (h.ext hB).drew
    refine ldI_of (x := (S.cols : Int)) (hg2.blk.cells 2 _ rfl) ?_
    refine ldS_of (x := a) hb.drew.cells ?_
    refine New_spec fun t w3 ho3 hB3 => ?_
    refine nw_blk fun w4 hb4 hB4 hs4 => ?_
    have hB24 : Below w2.heap.size w2 w4 := ((Below.refl _ w2).drew.trans hB3).trans (hB4.mono hB3.size)
    have hB04 : Below w.heap.size w w4 := hB.trans (hB24.mono hB.size)
    have hr4 : Rd slE w4 ⟨some ⟨w3.heap.size, 0, none⟩, 1, 1⟩ [t] := rd_one (E := slE) hb4 rfl
    have hll := hl.1
    rw [List.length_replicate] at hll
    have hbl := hb.lt
    have hs23 : w2.heap.size ≤ w3.heap.size := hB3.size
    have ho4 := ho.ext hB24
    refine apK_own slT116 ho4 hr4 hB04.size (by rw [by116]; simp; omega) (by simp [maxLen]; omega) fun q w5 ho5 hg5 hq5 => ?_
    rw [wrap64_id (by omega)]
    have notC : ∀ k cs, s.blk = some k → ¬ Blk w4 k 42 cs := fun k cs hk hc => by
      obtain ⟨cs', hcs'⟩ := ho4.blk_t hk
      exact hc.ne_t hcs' (by decide) rfl
    have hc5 : Chg (fun k => s.blk = some k) w4 w5 := Chg.of_grown hg5 fun k hk => hk
    have ht4 : Own cellE w4 w.heap.size t (newL S.cols a) := (ho3.base (by have := hB.size; show w.heap.size ≤ w2.heap.size; omega)).ext hB4
    refine hI _ _ ⟨k + 1, ls ++ [t], by simp, by omega, ho5, ?_, ?_, hB04.grown hg5 hB04.size fun g hg => (ho.lt g hg).1, ?_⟩ (by simp; omega)
    · rw [List.replicate_succ']
      refine Lines.append ((hl.ext hB24).chg hc5 notC) (Lines.one (ht4.chg hc5 fun g hg hs => ?_))
      obtain ⟨cs, hcs⟩ := ht4.blk_t hg
      exact notC g cs hs hcs
    · exact (hb.ext hB24).grown hg5 fun e => hne _ e.symm rfl
    · intro g hg
      rcases hq5 with e | e
      · rw [e] at hg; exact hne g hg
      · rw [e] at hg; cases hg; have := hB24.size; omega
  · have hh := of_decide_eq_false hh
    have : n.toNat = k := by omega
    rw [← this] at hl
    exact hK _ _ _ ho hl hB

/-- The grid gets another row of lines, new or its own turned. -/
theorem GridM.newRow {w1 w2 : World} {s : Slc} {ls : List Slc} {L : List (List Cell)} {top : Int} {B : Nat} (h : GridM w1 base f S) (hrow : Own slE w1 base s ls) (hl : Lines w1 base ls L) (hne : ∀ k, s.blk = some k → k ≠ f.g ∧ k ≠ f.r ∧ f.rs.blk ≠ some k)
    (hb : Blk w2 f.g 118 [.pointer (some ⟨f.r, 0, none⟩), .int .i64 S.rows, .int .i64 S.cols, .slice s.a s.n s.c, .int .i64 top]) (hg : w1.grownBy w2 (some f.g)) (_ : B ≤ w1.heap.size) : GridM w2 base { f with ls := s } { S with L := L, top := top } := by
  have hc : Chg (fun k => k = f.g) w1 w2 := Chg.of_grown hg fun k hk => by cases hk; rfl
  have notC : ∀ k cs, k = f.g → ¬ Blk w1 k 42 cs := fun k cs hk hcs => h.notC k cs (.inl hk) hcs
  obtain ⟨g1, g2, g3⟩ := h.g_ne
  refine ⟨hb, h.hg, ⟨ls, hrow.chg hc fun g hg => (hne g hg).1, hl.chg hc notC⟩, h.ring.chg hc (fun k hk => ?_) notC, fun k hk => (hne k hk).2.2⟩
  rcases hk with rfl | hk
  · exact fun e => g1 e.symm
  · exact (g3 k hk).1

theorem gClear_spec {a : Attr} {K : World → Prop} (h : GridM w base f S) (hrows : S.rows ≤ 100000) (hbase : base ≤ w.heap.size)
    (hK : ∀ f' w', GridM w' base f' { S with L := List.replicate S.rows (newL S.cols a) } → f.to f' w.heap.size → Chg (gridS f) w w' → K w') : c_grid_Grid_Clear (some ⟨f.g, 0, none⟩) a w K := by
  refine call_grid_Grid_Clear _ _ ?_
  unfold sh_grid_Grid_Clear
  simp only [onPtr_some]
  refine nw_blk fun w1 hb1 hB1 hs1 => ?_
  have h1 := (h.ext hB1).drew
  refine ldI_of (x := (S.rows : Int)) (h1.blk.cells 1 _ rfl) ?_
  refine ldS_of (x := a) hb1.drew.cells ?_
  refine gblanks_spec h1 (by omega) fun s ls w2 ho hl hB2 => ?_
  have hB02 : Below w.heap.size w w2 := hB1.drew.trans (hB2.mono hB1.size)
  have h2 := h.ext hB02
  have hfresh : ∀ k, s.blk = some k → w.heap.size ≤ k := fun k hk => by have := (ho.lt k hk).1; have := hB1.size; have e : w1.drew.heap.size = w1.heap.size := rfl; omega
  rw [add_mk]
  refine stK_blk h2.blk (by simp) fun w3 hb3 hg3 hs3 => ?_
  have hsz : w.heap.size ≤ w1.drew.heap.size := hB1.size
  have h3 := h2.newRow (B := 0) (top := S.top) (ho.base (by omega)) (L := List.replicate S.rows (newL S.cols a)) ⟨hl.1, fun i t xs e1 e2 => (hl.2 i t xs e1 e2).base (by omega)⟩ (fun k hk => ?_) hb3 hg3 (Nat.zero_le _)
  · refine hK _ w3 h3 ⟨rfl, rfl, .inr hfresh, .inl rfl⟩ ?_
    exact (Chg.of_ext (S := gridS f) hB02).trans (S' := fun k => k = f.g) (Chg.of_grown hg3 fun k hk => by cases hk; rfl) fun i _ hi => .inl hi
  · have hk' := hfresh k hk
    refine ⟨fun e => ?_, fun e => ?_, fun e => ?_⟩
    · have := (h.below k (.inl e)).2; omega
    · have := (h.below k (.inr (.inl e))).2; omega
    · have := (h.below k (.inr (.inr (.inr e)))).2; omega

theorem gSet_spec {row : Int} {l : Slc} {xs : List Cell} {K : Bool → World → Prop} (h : GridM w base f S) (hx : Rd cellE w l xs) (hxl : xs.length ≤ 10000) (hL : S.L.length = S.rows) (hbase : base ≤ w.heap.size)
    (hK1 : ∀ w', (0 ≤ row ∧ row < S.rows) → GridM w' base f { S with L := S.L.set row.toNat (resL xs S.cols) } → Chg (gridS f) w w' → K true w') (hK2 : ¬ (0 ≤ row ∧ row < S.rows) → K false w) : c_grid_Grid_Set (some ⟨f.g, 0, none⟩) row l w K := by
  refine call_grid_Grid_Set _ _ _ ?_
  unfold sh_grid_Grid_Set
  simp only [onPtr_some]
  refine joinP_of fun J hJ => ?_
  refine gis_spec h ?_
  by_cases hr : 0 ≤ row ∧ row < (S.rows : Int)
  · rw [decide_eq_true hr]
    refine cond_t rfl ?_
    refine ldSl_of (x := f.ls) (h.drew.blk.cells 3 _ rfl) ?_
    refine ldI_of (x := (S.cols : Int)) (h.drew.blk.cells 2 _ rfl) ?_
    refine Resize_spec hx.drew hxl fun t w4 ht hB4 => ?_
    have hB04 : Below w.heap.size w w4 := (Below.refl _ w).drew.trans hB4
    have h4 := h.ext hB04
    refine ⟨h4.blk.cells 3 _ rfl, ?_⟩
    obtain ⟨ls, ho, hl⟩ := h4.row
    have hll := hl.1
    refine ho.rd.ix rfl hr.1 (by omega) fun _ => ?_
    refine ho.st0 (x := ls[row.toNat]'(by omega)) (List.getElem?_eq_getElem _) (y := t) rfl fun w5 ho5 hg5 hs5 => ?_
    have hc5 : Chg (fun k => f.ls.blk = some k) w4 w5 := Chg.of_grown hg5 fun k hk => hk
    have notC : ∀ k cs, f.ls.blk = some k → ¬ Blk w4 k 42 cs := fun k cs hk => h4.notC k cs (.inr (.inr (.inl hk)))
    have ht4 : Own cellE w4 base t (resL xs S.cols) := ht.base hbase
    obtain ⟨g1, g2, g3⟩ := h4.g_ne
    have hc : Chg (gridS f) w w5 := (Chg.of_ext (S := gridS f) hB04).trans hc5 fun i _ hi => .inr (.inr (.inl hi))
    have h5 : GridM w5 base f { S with L := S.L.set row.toNat (resL xs S.cols) } := by
      refine ⟨h4.blk.chg hc5 fun e => (g2 _ e).1 rfl, h4.hg, ⟨ls.set row.toNat t, ho5, (hl.chg hc5 notC).set row.toNat (ht4.chg hc5 fun g hg hs => ?_)⟩, h4.ring.chg hc5 (fun k hk hs => ?_) notC, h4.ne⟩
      · obtain ⟨cs, hcs⟩ := ht4.blk_t hg
        exact notC g cs hs hcs
      · rcases hk with rfl | hk
        · exact (g2 _ hs).2 rfl
        · exact h4.ne k hs hk
    refine hJ _ _ (gis_spec h5 ?_)
    rw [decide_eq_true hr]
    exact hK1 w5 hr h5 hc
  · rw [decide_eq_false hr]
    refine cond_f rfl (hJ _ _ (gis_spec h ?_))
    rw [decide_eq_false hr]
    exact hK2 hr

theorem gForget_spec {K : World → Prop} (h : GridM w base f S)
    (hK : ∀ w', GridM w' base { f with rs := ⟨none, 0, 0⟩ } { S with old := [] } → Chg (gridS f) w w' → K w') : c_grid_Grid_Forget (some ⟨f.g, 0, none⟩) w K := by
  refine call_grid_Grid_Forget _ ?_
  unfold sh_grid_Grid_Forget
  simp only [onPtr_some]
  refine ldP_of (x := some ⟨f.r, 0, none⟩) (h.blk.cells 0 _ rfl) ?_
  refine RingClear_spec h.ring fun w1 hr1 hc1 => ?_
  obtain ⟨g1, g2, g3⟩ := h.g_ne
  obtain ⟨ls, ho, hl⟩ := h.row
  refine hK w1 ⟨h.blk.chg hc1 fun e => ?_, h.hg, ⟨ls, ho.chg hc1 fun g hg hs => ?_, hl.chg hc1 h.ring.notC⟩, hr1, fun k _ hk => by cases hk⟩ (hc1.mono fun i _ hi => ?_)
  · rcases e with e | e
    · exact g1 e
    · exact (g3 _ e).1 rfl
  · rcases hs with e | e
    · exact (g2 g hg).2 e
    · exact h.ne g hg e
  · rcases hi with e | e
    · exact .inr (.inl e)
    · exact .inr (.inr (.inr e))
end

/-- A new grid. -/
def gs0 (rows cols most : Nat) : GS := ⟨rows, cols, most, List.replicate rows (newL cols ⟨0, 0, 0⟩), [], 0⟩
def badGrid (rows cols back : Int) : Prop := ¬ (1 ≤ rows ∧ rows ≤ 1000) ∨ ¬ (1 ≤ cols ∧ cols ≤ 1000) ∨ back < 0 ∨ back > 16384
theorem gNew_spec {rows cols back : Int} {w : World} {K : Option Addr → Int → World → Prop} (hK1 : badGrid rows cols back → K none 1 w)
    (hK2 : ¬ badGrid rows cols back → ∀ f w', GridM w' w.heap.size f (gs0 rows.toNat cols.toNat back.toNat) → Below w.heap.size w w' → K (some ⟨f.g, 0, none⟩) 0 w') : c_grid_New rows cols back w K := by
  refine call_grid_New _ _ _ ?_
  unfold sh_grid_New
  have size : ∀ {n : Int} {K : Bool → World → Prop}, K (decide (1 ≤ n ∧ n ≤ 1000)) w → c_grid_size n w K := by
    intro n K hk
    refine call_grid_size _ ?_
    unfold sh_grid_size
    refine cond_of (fun h => ?_) (fun h => ?_)
    · have h : 1 ≤ n := of_decide_eq_true h
      have : decide (n ≤ 1000) = decide (1 ≤ n ∧ n ≤ 1000) := by simp [h]
      rw [this]; exact hk
    · have h := of_decide_eq_false h
      have : decide (1 ≤ n ∧ n ≤ 1000) = false := by simp; omega
      rw [this] at hk; exact hk
  refine joinP_of fun J hJ => ?_
  refine size ?_
  by_cases h1 : 1 ≤ rows ∧ rows ≤ 1000
  · rw [decide_eq_true h1]
    refine cond_f rfl (size ?_)
    by_cases h2 : 1 ≤ cols ∧ cols ≤ 1000
    · rw [decide_eq_true h2]
      refine cond_f rfl ?_
      refine cond_of (fun h3 => hK1 (.inr (.inr (.inl (of_decide_eq_true h3))))) (fun h3 => ?_)
      refine cond_of (fun h4 => hK1 (.inr (.inr (.inr (of_decide_eq_true h4))))) (fun h4 => ?_)
      have h3 := of_decide_eq_false h3
      have h4 := of_decide_eq_false h4
      have hgood : ¬ badGrid rows cols back := by unfold badGrid; omega
      refine hJ _ _ ?_
      refine RingNew_spec (base := w.heap.size) (by omega) (by omega) (Nat.le_refl _) fun w1 hr1 hB1 hs1 => ?_
      refine nw_blk fun w2 hb2 hB2 hs2 => ?_
      have hB02 : Below w.heap.size w w2 := hB1.trans (hB2.mono (by omega))
      have hg2 : GridM w2 w.heap.size ⟨w1.heap.size, w.heap.size, ⟨none, 0, 0⟩, ⟨none, 0, 0⟩⟩ ⟨rows.toNat, cols.toNat, back.toNat, [], [], 0⟩ := by
        refine ⟨?_, by show w.heap.size ≤ w1.heap.size; omega, ⟨[], Own.nil _ _ _, Lines.nil _ _⟩, hr1.ext hB2, fun k hk => by cases hk⟩
        show Blk w2 w1.heap.size 118 [_, .int .i64 ((rows.toNat : Nat) : Int), .int .i64 ((cols.toNat : Nat) : Int), _, _]
        rw [show ((rows.toNat : Nat) : Int) = rows by omega, show ((cols.toNat : Nat) : Int) = cols by omega]
        exact hb2
      refine gClear_spec (f := ⟨w1.heap.size, w.heap.size, ⟨none, 0, 0⟩, ⟨none, 0, 0⟩⟩) hg2 (by show rows.toNat ≤ 100000; omega) hB02.size fun f' w3 hg3 hf hc => ?_
      have hg' : f'.g = w1.heap.size := hf.g
      have key := hK2 hgood f' w3 hg3 (hB02.trans (hc.below hB02.size fun i hi hs => by have := (hg2.below i hs).1; omega))
      rw [hg'] at key
      exact key
    · rw [decide_eq_false h2]
      exact cond_t rfl (hK1 (.inr (.inl h2)))
  · rw [decide_eq_false h1]
    exact cond_t rfl (hK1 (.inl h1))

end Go.Proofs.YtgejghejnibocaaDoor
