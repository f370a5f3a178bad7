/- Grids of the program: Resize. -/
import Derived.Test.YtgejghejnibocaaDoorG7
namespace Go.Proofs.YtgejghejnibocaaDoor
open Go.Vc Go.RowKit

theorem size_spec {n : Int} {w : World} {K : Bool → World → Prop} (hk : K (decide (1 ≤ n ∧ n ≤ 1000)) w) : c_grid_size n w K := by
  refine call_grid_size _ ?_
  unfold sh_grid_size
  refine cond_of (fun h => ?_) (fun h => ?_)
  · have h : 1 ≤ n := of_decide_eq_true h
    have : decide (n ≤ 1000) = decide (1 ≤ n ∧ n ≤ 1000) := by simp [h]
    rw [this]; exact hk
  · have h := of_decide_eq_false h
    have : decide (1 ≤ n ∧ n ≤ 1000) = false := by simp; omega
    rw [this] at hk; exact hk

theorem scrollL_length {cols : Nat} {L : List (List Cell)} {rows : Nat} {top past n : Int} {a : Attr} (hL : L.length = rows) (h : ¬ scrollBad rows top past n) : (scrollL cols L top past n a).length = L.length := by
  unfold scrollBad at h
  have hm : (scrollM top past n : Int) = min (if n < 0 then -n else n) (past - top) := by unfold scrollM; split <;> omega
  unfold scrollL
  dsimp only
  generalize scrollM top past n = m at *
  split
  · simp only [List.length_append, List.length_take, List.length_drop, List.length_replicate]
    split at hm <;> omega
  · simp only [List.length_append, List.length_take, List.length_drop, List.length_replicate]
    split at hm <;> omega
theorem scrollG_length {S : GS} {top past n : Int} {a : Attr} (hL : S.L.length = S.rows) : (scrollG S top past n a).L.length = S.rows ∧ (scrollG S top past n a).rows = S.rows ∧ (scrollG S top past n a).cols = S.cols ∧ (scrollG S top past n a).most = S.most := by
  unfold scrollG
  split
  · exact ⟨hL, rfl, rfl, rfl⟩
  · next h =>
    split
    · exact ⟨(scrollL_length hL h).trans hL, rfl, rfl, rfl⟩
    · exact ⟨(scrollL_length hL h).trans hL, rfl, rfl, rfl⟩

def badResize (S : GS) (rows cols row : Int) : Prop := ¬ (1 ≤ rows ∧ rows ≤ 1000) ∨ ¬ (1 ≤ cols ∧ cols ≤ 1000) ∨ ¬ (0 ≤ row ∧ row < S.rows)
def resize1 (S : GS) (cols : Nat) : GS := { S with L := S.L.map (resL · cols), cols := cols }
def resize2 (S : GS) (rows cols : Nat) (row : Int) : GS := if row ≥ rows then scrollG (resize1 S cols) 0 S.rows (row + 1 - rows) ⟨0, 0, 0⟩ else resize1 S cols
def resizeG (S : GS) (rows cols : Nat) (row : Int) : GS :=
  { resize2 S rows cols row with L := (resize2 S rows cols row).L.take rows ++ List.replicate (rows - S.rows) (newL cols ⟨0, 0, 0⟩), rows := rows }

section
variable {w w1 w2 : World} {base : Nat} {f : Foot} {S : GS}
/-- The grid gets another line. -/
theorem GridM.setLine {i : Nat} {t : Slc} {xs : List Cell} {ls : List Slc} (h : GridM w1 base f S) (hl : Lines w1 base ls S.L) (ht : Own cellE w1 base t xs) (ho : Own slE w2 base f.ls (ls.set i t)) (hg : w1.grownBy w2 f.ls.blk) :
    GridM w2 base f { S with L := S.L.set i xs } ∧ Chg (fun k => f.ls.blk = some k) w1 w2 := by
  have hc5 : Chg (fun k => f.ls.blk = some k) w1 w2 := Chg.of_grown hg fun k hk => hk
  have notC : ∀ k cs, f.ls.blk = some k → ¬ Blk w1 k 42 cs := fun k cs hk => h.notC k cs (.inr (.inr (.inl hk)))
  obtain ⟨g1, g2, g3⟩ := h.g_ne
  refine ⟨⟨h.blk.chg hc5 fun e => (g2 _ e).1 rfl, h.hg, ⟨ls.set i t, ho, (hl.chg hc5 notC).set i (ht.chg hc5 fun g hg hs => ?_)⟩, h.ring.chg hc5 (fun k hk hs => ?_) notC, h.ne⟩, hc5⟩
  · obtain ⟨cs, hcs⟩ := ht.blk_t hg
    exact notC g cs hs hcs
  · rcases hk with rfl | hk
    · exact (g2 _ hs).2 rfl
    · exact h.ne k hs hk

/-- The grid's own block is written anew. -/
theorem GridM.newBlk {s : Slc} {ls : List Slc} {L : List (List Cell)} {top : Int} {rows cols : Nat} (h : GridM w1 base f S) (hrow : Own slE w1 base s ls) (hl : Lines w1 base ls L) (hne : ∀ k, s.blk = some k → k ≠ f.g ∧ k ≠ f.r ∧ f.rs.blk ≠ some k)
    (hb : Blk w2 f.g 118 [.pointer (some ⟨f.r, 0, none⟩), .int .i64 rows, .int .i64 cols, .slice s.a s.n s.c, .int .i64 top]) (hg : w1.grownBy w2 (some f.g)) : GridM w2 base { f with ls := s } { S with rows := rows, cols := cols, L := L, top := top } := by
  have hc : Chg (fun k => k = f.g) w1 w2 := Chg.of_grown hg fun k hk => by cases hk; rfl
  have notC : ∀ k cs, k = f.g → ¬ Blk w1 k 42 cs := fun k cs hk hcs => h.notC k cs (.inl hk) hcs
  obtain ⟨g1, g2, g3⟩ := h.g_ne
  refine ⟨hb, h.hg, ⟨ls, hrow.chg hc fun g hg => (hne g hg).1, hl.chg hc notC⟩, h.ring.chg hc (fun k hk => ?_) notC, fun k hk => (hne k hk).2.2⟩
  rcases hk with rfl | hk
  · exact fun e => g1 e.symm
  · exact (g3 k hk).1
theorem GridM.rowNe (h : GridM w base f S) : ∀ k, f.ls.blk = some k → k ≠ f.g ∧ k ≠ f.r ∧ f.rs.blk ≠ some k := fun k hk => ⟨(h.g_ne.2.1 k hk).1, (h.g_ne.2.1 k hk).2, h.ne k hk⟩
theorem Chg.gg {k : Nat} (h : w1.grownBy w2 (some k)) : Chg (fun i => i = k) w1 w2 := Chg.of_grown h fun i hi => by cases hi; rfl

theorem gResize_spec {rows cols row : Int} {K : Int → Int → World → Prop} (h : GridM w base f S) (hL : S.L.length = S.rows) (hrows : S.rows ≤ 1000) (hw : ∀ xs ∈ S.L, xs.length ≤ 10000) (hmost : S.most ≤ 100000) (hbase : base ≤ w.heap.size)
    (hK1 : badResize S rows cols row → K 0 1 w)
    (hK2 : ∀ f' w', ¬ badResize S rows cols row → GridM w' base f' (resizeG S rows.toNat cols.toNat row) → f.to f' w.heap.size → Chg (gridS f) w w' → K (if row ≥ rows then rows - 1 else row) 0 w') : c_grid_Grid_Resize (some ⟨f.g, 0, none⟩) rows cols row w K := by
  refine call_grid_Grid_Resize _ _ _ _ ?_
  unfold sh_grid_Grid_Resize
  simp only [onPtr_some]
  refine joinP_of fun J1 hJ1 => ?_
  refine size_spec ?_
  by_cases c1 : 1 ≤ rows ∧ rows ≤ 1000
  rotate_left
  · rw [decide_eq_false c1]; exact cond_t rfl (hK1 (.inl c1))
  rw [decide_eq_true c1]
  refine cond_f rfl (size_spec ?_)
  by_cases c2 : 1 ≤ cols ∧ cols ≤ 1000
  rotate_left
  · rw [decide_eq_false c2]; exact cond_t rfl (hK1 (.inr (.inl c2)))
  rw [decide_eq_true c2]
  refine cond_f rfl (gis_spec h ?_)
  by_cases c3 : 0 ≤ row ∧ row < (S.rows : Int)
  rotate_left
  · rw [decide_eq_false c3]; exact cond_t rfl (hK1 (.inr (.inr c3)))
  rw [decide_eq_true c3]
  refine cond_f rfl (hJ1 _ _ ?_)
  have hgood : ¬ badResize S rows cols row := by unfold badResize; omega
  have hK := fun f' w' => hK2 f' w' hgood
  clear hK1 hK2 hJ1
  obtain ⟨rows, rfl⟩ : ∃ n : Nat, rows = n := ⟨rows.toNat, by omega⟩
  obtain ⟨cols, rfl⟩ : ∃ n : Nat, cols = n := ⟨cols.toNat, by omega⟩
  simp only [Int.toNat_natCast] at hK
  refine ldSl_of (x := f.ls) (h.blk.cells 3 _ rfl) ?_
  have hRl : (S.L.map (resL · (cols : Int))).length = S.L.length := by simp
  have hlsn : f.ls.n = S.rows := by
    obtain ⟨ls, ho, hl⟩ := h.row
    rw [ho.rd.n, hl.1, hL]
  refine loopP_rule (fun (s : Int × Unit) w2 => ∃ k : Nat, s.1 = k ∧ k ≤ S.rows ∧ GridM w2 base f { S with L := mix (S.L.map (resL · (cols : Int))) S.L k } ∧ Chg (gridS f) w w2) (fun s => S.rows - s.1.toNat) ⟨0, rfl, by omega, by rw [mix_zero]; exact h, Chg.refl _ _⟩ ?_
  rintro ⟨i, _⟩ w2 ⟨k, rfl, hk, h2, hc2⟩ I hI
  dsimp only at *
  rw [hlsn]
  refine cond_of (fun hlt => ?_) (fun hge => ?_)
  · have hlt := of_decide_eq_true hlt
    obtain ⟨ls, ho, hl⟩ := h2.row
    have hll := hl.1
    rw [show ({ S with L := mix (S.L.map (resL · (cols : Int))) S.L k } : GS).L = mix (S.L.map (resL · (cols : Int))) S.L k from rfl, mix_length hRl] at hll
    have hkl : k < ls.length := by omega
    refine ho.rd.ix rfl (by omega) (by omega) fun hc => ?_
    have hlk : ls[k]? = some ls[k] := List.getElem?_eq_getElem _
    refine ldSl_of (x := ls[k]) (by simpa using hc 0 _ rfl) ?_
    refine ldSl_of (x := f.ls) (h2.drew.blk.cells 3 _ rfl) ?_
    have hxk : (mix (S.L.map (resL · (cols : Int))) S.L k)[k]? = some (S.L[k]'(by omega)) := by
      rw [mix_get hRl (by omega), if_neg (by omega)]
      exact List.getElem?_eq_getElem _
    have hown := hl.2 _ _ _ hlk hxk
    refine Resize_spec hown.rd.drew (hw _ (List.getElem_mem _)) fun t w4 ht hB4 => ?_
    have hB24 : Below w2.heap.size w2 w4 := (Below.refl _ w2).drew.trans hB4
    have h4 := h2.ext hB24
    refine ⟨h4.blk.cells 3 _ rfl, ?_⟩
    have ho4 := ho.ext hB24
    have hl4 := hl.ext hB24
    have hsz := hc2.size
    have hsz4 : w2.heap.size ≤ w4.heap.size := hB24.size
    refine ho4.rd.ix rfl (by omega) (by omega) fun _ => ?_
    refine ho4.st0 (x := ls[k]) (y := t) (by rw [show ((k : Int)).toNat = k from rfl]; exact hlk) rfl fun w5 ho5 hg5 hs5 => ?_
    rw [show ((k : Int)).toNat = k from rfl] at ho5
    obtain ⟨h5, hc5⟩ := h4.setLine (i := k) hl4 (ht.base (by show base ≤ w2.heap.size; omega)) ho5 hg5
    have hy : (S.L.map (resL · (cols : Int)))[k]? = some (resL (S.L[k]'(by omega)) cols) := by
      rw [List.getElem?_map, List.getElem?_eq_getElem (by omega : k < S.L.length)]
      rfl
    rw [wrap64_id (by omega)]
    refine hI _ _ ⟨k + 1, by simp, by omega, ?_, (hc2.trans (Chg.of_ext (S := fun k => f.ls.blk = some k) hB24 |>.trans hc5 fun i _ hi => hi) fun i _ hi => .inr (.inr (.inl hi)))⟩ (by simp; omega)
    rw [← mix_set hRl (by omega) hy]
    exact h5
  · have hge := of_decide_eq_false hge
    have : k = S.L.length := by omega
    subst this
    rw [mix_all hRl] at h2
    rw [add_mk]
    refine stK_blk h2.blk (by simp) fun w5 hb5 hg5 hs5 => ?_
    obtain ⟨ls2, ho2, hl2⟩ := h2.row
    have h5 : GridM w5 base f (resize1 S cols) := h2.newBlk (rows := S.rows) (cols := cols) (top := S.top) ho2 hl2 h2.rowNe hb5 hg5
    have hc5 : Chg (gridS f) w w5 := hc2.trans (Chg.gg hg5) fun i _ hi => .inl hi
    have hL1 : (resize1 S cols).L.length = (resize1 S cols).rows := by show (S.L.map _).length = S.rows; omega
    have hS5 := hc5.size
    refine joinP_of fun J3 hJ3 => ?_
    have main : ∀ f6 w6, GridM w6 base f6 (resize2 S rows cols row) → f.to f6 w.heap.size → Chg (gridS f) w w6 → J3 (if row ≥ (rows : Int) then (rows : Int) - 1 else row, ()) w6 := fun f6 w6 h6 hf6 hc6 => hJ3 _ _ (by
      obtain ⟨hL2, hr2, hcl2, hm2⟩ : (resize2 S rows cols row).L.length = S.rows ∧ (resize2 S rows cols row).rows = S.rows ∧ (resize2 S rows cols row).cols = cols ∧ (resize2 S rows cols row).most = S.most := by
        unfold resize2
        split
        · exact scrollG_length hL1
        · exact ⟨hL1, rfl, rfl, rfl⟩
      have hK := hK
      unfold resizeG at hK
      generalize resize2 S rows cols row = S2 at *
      have hg6 : f6.g = f.g := hf6.g
      dsimp only
      have hS6 := hc6.size
      obtain ⟨ls, ho, hl⟩ := h6.row
      have hll := hl.1
      have hln : f6.ls.n = S.rows := by rw [ho.rd.n, hll, hL2]
      have hb6 := h6.drew.blk
      rw [hg6] at hb6
      refine ldSl_of (x := f6.ls) (hb6.cells 3 _ rfl) ?_
      refine ldSl_of (x := f6.ls) (hb6.cells 3 _ rfl) ?_
      rw [hln]
      have hmin : (if ((S.rows : Nat) : Int) < (rows : Int) then ((S.rows : Nat) : Int) else (rows : Int)) = ((min S.rows rows : Nat) : Int) := by split <;> omega
      rw [hmin]
      refine ho.drew.rd.slK (l := 0) (m := min S.rows rows) rfl (.inl ⟨rfl, rfl⟩) (.inr rfl) (by omega) (by omega) fun hpart => ?_
      refine ldSl_of (x := f6.ls) (hb6.cells 3 _ rfl) ?_
      rw [hln, wrap64_id (by omega)]
      rw [← hg6]
      refine gblanks_spec h6.drew (by omega) fun b bls w7 hob hlb hB7 => ?_
      have hB67 : Below w6.heap.size w6 w7 := (Below.refl _ w6).drew.trans hB7
      have h7 := h6.ext hB67
      have hcell7 : w7.cell? ((⟨f6.g, 0, none⟩ : Addr).add 3) = some (.slice f6.ls.a f6.ls.n f6.ls.c) := h7.blk.cells 3 _ rfl
      rw [hln] at hcell7
      refine ⟨hcell7, hcell7, ?_⟩
      refine nw_blk fun w8 hb8 hB8 hs8 => ?_
      have hB68 : Below w6.drew.heap.size w6.drew w8 := hB7.trans (hB8.mono hB7.size)
      have hA := rdAllS2 (hpart.ext hB68) (hob.rd.ext hB8)
      have hbl := hlb.1
      rw [List.length_replicate] at hbl
      refine ConcatS_spec ?_ hA ?_ (by simp) fun q w9 ho9 hB9 => ?_
      · exact rd_lits (E := sl2E) (ys := [_, _]) hb8 (by simp [maxLen]) rfl
      · simp; omega
      have hB69 : Below w6.heap.size w6 w9 := hB67.trans ((hB8.trans (hB9.mono hB8.size)).mono hB67.size)
      have hB79 : Below w7.heap.size w7 w9 := hB8.trans (hB9.mono hB8.size)
      have h9 := h6.ext hB69
      have hl9 := hl.ext hB69
      have hs68 : w6.heap.size ≤ w8.heap.size := by have := hB67.size; have := hB8.size; omega
      have hlb9 : Lines w9 base bls (List.replicate ((rows : Int) - S.rows).toNat (newL cols ⟨0, 0, 0⟩)) := by
        rw [← hcl2]
        exact ⟨hlb.1, fun i t xs x1 x2 => ((hlb.2 i t xs x1 x2).ext hB79).base (by show base ≤ w6.heap.size; omega)⟩
      have hfresh : ∀ k, q.blk = some k → w6.heap.size ≤ k := fun k hk => by have := (ho9.lt k hk).1; omega
      have hrow := ho9.base (base' := base) (by omega)
      have hlines := ((hl9.take (min S.rows rows)).drop 0).append (hlb9.append (Lines.nil w9 base))
      rw [add_mk]
      refine stK_blk h9.blk (by simp) fun w10 hb10 hg10 hs10 => ?_
      have hqne : ∀ k, q.blk = some k → k ≠ f6.g ∧ k ≠ f6.r ∧ f6.rs.blk ≠ some k := fun k hk => by
        have hk' := hfresh k hk
        refine ⟨fun e => ?_, fun e => ?_, fun e => ?_⟩
        · have := (h6.below k (.inl e)).2; omega
        · have := (h6.below k (.inr (.inl e))).2; omega
        · have := (h6.below k (.inr (.inr (.inr e)))).2; omega
      have h10 := h9.newBlk (rows := S2.rows) (cols := S2.cols) (top := S2.top) hrow hlines hqne hb10 hg10
      rw [add_mk]
      refine stK_blk h10.blk (by simp) fun w11 hb11 hg11 hs11 => ?_
      obtain ⟨ls10, ho10, hl10⟩ := h10.row
      have h11 := h10.newBlk (rows := rows) (cols := S2.cols) (top := S2.top) ho10 hl10 h10.rowNe hb11 hg11
      refine hK { f6 with ls := q } w11 ?_ ?_ ?_
      · have e : S2.L.take rows ++ List.replicate (rows - S.rows) (newL cols ⟨0, 0, 0⟩) = List.drop 0 (List.take (min S.rows rows) S2.L) ++ (List.replicate ((rows : Int) - S.rows).toNat (newL cols ⟨0, 0, 0⟩) ++ []) := by
          rw [List.drop_zero, List.append_nil, show ((rows : Int) - S.rows).toNat = rows - S.rows by omega]
          congr 1
          rcases Nat.le_total S.rows rows with hh | hh
          · rw [Nat.min_eq_left hh, List.take_of_length_le (by omega), List.take_of_length_le (by omega)]
          · rw [Nat.min_eq_right hh]
        rw [e]
        exact h11
      · exact ⟨hf6.g, hf6.r, .inr fun k hk => by have := hfresh k hk; omega, hf6.rs⟩
      · have hold := hf6.old
        have c10 : Chg (gridS f) w w10 := (hc6.trans (Chg.of_ext (S := gridS f) hB69) fun i _ hi => hi).trans (Chg.gg hg10) fun i _ hi => .inl (by rw [hi, hg6])
        exact c10.trans (Chg.gg hg11) fun i _ hi => .inl (by rw [hi, hg6]))
    refine cond_of (fun hr => ?_) (fun hr => ?_)
    · have hr := of_decide_eq_true hr
      rw [if_pos hr] at main
      refine ldI_of (x := (S.rows : Int)) (h5.blk.cells 1 _ rfl) ?_
      rw [wrap64_id (x := row + 1) (by omega), wrap64_id (x := row + 1 - (rows : Int)) (by omega), wrap64_id (x := (rows : Int) - 1) (by omega)]
      refine gScroll_spec h5 hL1 hrows hmost (by omega) (by omega) fun f6 w6 h6 hf6 hc6 => ?_
      refine main f6 w6 ?_ ((Foot.to.refl f w.heap.size).trans hf6 hS5) (hc5.trans hc6 fun i _ hi => hi)
      rw [resize2, if_pos hr]
      exact h6
    · have hr := of_decide_eq_false hr
      rw [if_neg hr] at main
      refine main f w5 ?_ (Foot.to.refl _ _) hc5
      rw [resize2, if_neg hr]
      exact h5
end

end Go.Proofs.YtgejghejnibocaaDoor
