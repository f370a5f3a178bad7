/- Plain laws of grids: what Scroll, Resize make, line by line; rows of one character. -/
import Derived.Test.YtgejghejnibocaaDoorG9
namespace Go.Proofs.YtgejghejnibocaaDoor
open Go.Vc Go.RowKit

theorem resL_same {xs : List Cell} (h : Plain xs) (hl : xs.length ≤ 1000) : resL xs xs.length = xs := by
  have e : min 1000 (max 0 ((xs.length : Nat) : Int)) = xs.length := by omega
  unfold resL
  dsimp only
  rw [e, if_pos (Int.le_refl _), plain_mend h, Int.toNat_natCast, List.take_length, plain_mend h]
theorem resL_wide {xs : List Cell} (h : Plain xs) {n : Nat} (hl : xs.length ≤ n) (hn : n ≤ 1000) : resL xs n = xs ++ List.replicate (n - xs.length) (blankC a0) := by
  have e : min 1000 (max 0 (n : Int)) = n := by omega
  unfold resL
  dsimp only
  rw [e, plain_mend h]
  split
  · have : n = xs.length := by omega
    subst this
    rw [Int.toNat_natCast, List.take_length, plain_mend h, Nat.sub_self]
    simp
  · rw [show ((n : Int) - xs.length).toNat = n - xs.length by omega]
    rfl
theorem resL_thin {xs : List Cell} (h : Plain xs) {n : Nat} (hl : n ≤ xs.length) (hn : n ≤ 1000) : resL xs n = xs.take n := by
  have e : min 1000 (max 0 (n : Int)) = n := by omega
  unfold resL
  dsimp only
  rw [e, plain_mend h, if_pos (by omega), Int.toNat_natCast, plain_mend (plain_take h n)]

/-- A line of blanks with one character. -/
def rowN (cols c : Nat) (r : Int) : List Cell := (List.replicate cols (blankC a0)).set c ⟨r, 0, a0⟩
theorem rowN_plain (cols c : Nat) (r : Int) : Plain (rowN cols c r) := plain_set (plain_blanks _ _) rfl
theorem rowN_length (cols c : Nat) (r : Int) : (rowN cols c r).length = cols := by simp [rowN]
theorem newL_eq {n : Nat} (h : n ≤ 1000) (a : Attr) : newL n a = List.replicate n (blankC a) := by
  rw [newL, if_neg (by omega)]
  simp
theorem put_row {cols : Nat} {c r : Int} (hc : cols ≤ 1000) (h0 : 0 ≤ c) (h1 : c < cols) : putP (newL cols a0) c r 1 a0 = rowN cols c.toNat r := by
  rw [newL_eq hc, put_plain (plain_blanks _ _) (by unfold badPut; simp; omega)]
  rfl

theorem scrollL_get {cols : Nat} {L : List (List Cell)} {rows : Nat} {top past n : Int} {a : Attr} (hL : L.length = rows) (h : ¬ scrollBad rows top past n) (i : Nat) :
    (scrollL cols L top past n a)[i]? = if (i : Int) < top ∨ (i : Int) ≥ past then L[i]? else if n > 0 then (if (i : Int) + scrollM top past n < past then L[i + scrollM top past n]? else some (newL cols a)) else (if (i : Int) < top + scrollM top past n then some (newL cols a) else L[i - scrollM top past n]?) := by
  unfold scrollBad at h
  have hm : (scrollM top past n : Int) = min (if n < 0 then -n else n) (past - top) := by unfold scrollM; split <;> omega
  unfold scrollL
  dsimp only
  generalize scrollM top past n = m at *
  obtain ⟨tp, rfl⟩ : ∃ tp : Nat, top = tp := ⟨top.toNat, by omega⟩
  obtain ⟨ps, rfl⟩ : ∃ ps : Nat, past = ps := ⟨past.toNat, by omega⟩
  have hm1 : m ≤ ps - tp := by split at hm <;> omega
  simp only [Int.toNat_natCast]
  by_cases hn : n > 0
  · rw [if_pos hn, if_pos hn]
    simp only [List.getElem?_append, List.length_append, List.length_take, List.length_drop, List.length_replicate, List.getElem?_take, List.getElem?_drop, List.getElem?_replicate]
    by_cases h1 : i < tp
    · rw [if_pos (by omega), if_pos (by omega), if_pos (by omega), if_pos (by omega), if_pos (by omega)]
    · by_cases h2 : ps ≤ i
      · rw [if_neg (by omega), if_pos (by omega)]
        congr 1
        omega
      · rw [if_neg (by omega : ¬ ((i : Int) < tp ∨ (i : Int) ≥ ps)), if_pos (by omega)]
        by_cases h3 : i + m < ps
        · rw [if_pos (by omega), if_neg (by omega), if_pos (by omega), if_pos (by omega)]
          congr 1
          omega
        · rw [if_neg (by omega), if_pos (by omega), if_neg (by omega)]
  · rw [if_neg hn, if_neg hn]
    simp only [List.getElem?_append, List.length_append, List.length_take, List.length_drop, List.length_replicate, List.getElem?_take, List.getElem?_drop, List.getElem?_replicate]
    by_cases h1 : i < tp
    · rw [if_pos (by omega), if_pos (by omega), if_pos (by omega), if_pos (by omega), if_pos (by omega)]
    · by_cases h2 : ps ≤ i
      · rw [if_neg (by omega), if_pos (by omega)]
        congr 1
        omega
      · rw [if_neg (by omega : ¬ ((i : Int) < tp ∨ (i : Int) ≥ ps)), if_pos (by omega)]
        by_cases h3 : i < tp + m
        · rw [if_pos (by omega), if_neg (by omega), if_pos (by omega), if_pos (by omega)]
        · rw [if_neg (by omega), if_pos (by omega), if_neg (by omega)]
          congr 1
          omega

theorem pushAll_room (most : Nat) (old xs : List (List Cell)) (h : old.length + xs.length ≤ most) : pushAll most old xs = old ++ xs := by
  induction xs generalizing old with
  | nil => simp [pushAll]
  | cons x r ih =>
    simp only [List.length_cons] at h
    rw [pushAll, List.foldl_cons, pushL, if_neg (by omega), if_pos (by omega)]
    have := ih (old ++ [x]) (by simp; omega)
    rw [pushAll] at this
    rw [this]
    simp

section
variable {w : World} {base : Nat} {f : Foot} {S : GS}
/-- A new line with one character is set. -/
theorem setChr {cols c r i : Int} {K : Bool → World → Prop} (h : GridM w base f S) (hc : cols = S.cols) (hcols : 1 ≤ S.cols ∧ S.cols ≤ 1000) (h0 : 0 ≤ c) (h1 : c < cols) (hi : 0 ≤ i ∧ i < S.rows) (hL : S.L.length = S.rows) (hbase : base ≤ w.heap.size)
    (hK : ∀ w', GridM w' base f { S with L := S.L.set i.toNat (rowN S.cols c.toNat r) } → Chg (gridS f) w w' → K true w') :
    c_line_New cols (⟨0, 0, 0⟩ : T_api_Attr) w fun t w1 => c_line_Line_Put t c r 1 (⟨0, 0, 0⟩ : T_api_Attr) w1 fun u _ w2 => c_grid_Grid_Set (some ⟨f.g, 0, none⟩) i u w2 K := by
  subst hc
  refine New_spec fun t w1 ho1 hB1 => ?_
  refine Put_spec ho1.rd (by rw [newL_eq hcols.2]; simp; omega) fun u w2 ho2 hB2 => ?_
  have hB02 : Below w.heap.size w w2 := hB1.trans (hB2.mono hB1.size)
  have e : putP (newL S.cols ⟨0, 0, 0⟩) c r 1 ⟨0, 0, 0⟩ = rowN S.cols c.toNat r := put_row hcols.2 h0 h1
  rw [e] at ho2
  have hs := hB02.size
  refine gSet_spec (h.ext hB02) ho2.rd (by rw [rowN_length]; omega) hL (by omega) (fun w3 _ h3 hc3 => ?_) (fun hn => absurd hi hn)
  refine hK w3 ?_ ((Chg.of_ext (S := gridS f) hB02).trans hc3 fun i _ hi => hi)
  have e2 : resL (rowN S.cols c.toNat r) S.cols = rowN S.cols c.toNat r := by
    have := resL_same (rowN_plain S.cols c.toNat r) (by rw [rowN_length]; exact hcols.2)
    rwa [rowN_length] at this
  rw [← e2]
  exact h3

/-- What is fresh behind a world is below nothing that was there. -/
theorem grid_below {w0 w' : World} {B : Nat} (h : GridM w base f S) (hb : Below B w0 w) (hB : B ≤ base) (hw0 : base ≤ w.heap.size) (hc : Chg (gridS f) w w') : Below B w0 w' :=
  hb.trans (hc.below (by omega) fun i hi hs => by have := (h.below i hs).1; omega)
theorem gs_eq {r c m : Nat} {L L' o o' : List (List Cell)} {t t' : Int} (h1 : L = L') (h2 : o = o') (h3 : t = t') : (⟨r, c, m, L, o, t⟩ : GS) = ⟨r, c, m, L', o', t'⟩ := by
  subst h1; subst h2; subst h3; rfl

end

/-! ### The known grid -/
def kn (t : List (List Cell)) (o : List (List Cell)) (top : Int) : GS := ⟨2, 3, 1, t, o, top⟩
theorem known16 {w : World} {K : Bool → World → Prop} (hK : ∀ w', Below w.heap.size w w' → K true w') : c_phosphorlaw16_known w K := by
  refine call_phosphorlaw16_known ?_
  unfold sh_phosphorlaw16_known
  refine gNew_spec (fun hb => ?_) (fun _ f w1 h1 hB1 => ?_)
  · unfold badGrid at hb; omega
  refine joinP_of fun J hJ => ?_
  refine cond_f rfl (cond_f rfl (hJ _ _ ?_))
  clear hJ
  have hs1 := hB1.size
  refine setChr (S := gs0 2 3 1) (f := f) h1 rfl ⟨by decide, by decide⟩ (by decide) (by decide) ⟨by decide, by decide⟩ rfl hs1 fun w2 h2 hc2 => ?_
  have hB2 := grid_below h1 hB1 (Nat.le_refl _) hs1 hc2
  have hs2 := hB2.size
  refine gScroll_spec h2 rfl (by decide) (by decide) hs2 (by decide) fun f3 w3 h3 hf3 hc3 => ?_
  have hB3 := grid_below h2 hB2 (Nat.le_refl _) hs2 hc3
  have hs3 := hB3.size
  rw [← hf3.g]
  have e3 : scrollG { gs0 2 3 1 with L := (gs0 2 3 1).L.set 0 (rowN 3 0 97) } 0 2 1 ⟨0, 0, 0⟩ = kn [newL 3 ⟨0, 0, 0⟩, newL 3 ⟨0, 0, 0⟩] [rowN 3 0 97] 1 := by kernel_rfl
  have h3 : GridM w3 w.heap.size f3 (kn [newL 3 ⟨0, 0, 0⟩, newL 3 ⟨0, 0, 0⟩] [rowN 3 0 97] 1) := by rw [← e3]; exact h3
  refine gOld_spec h3 (by decide) (fun xs hx => ?_) (fun s xs w4 _ hx ho4 hB4 => ?_) (fun hn => ?_)
  · have hx : xs = rowN 3 0 97 := by simpa [kn] using hx
    subst hx
    rw [rowN_length]; decide
  · have hx : xs = rowN 3 0 97 := by
      have : some (rowN 3 0 97) = some xs := hx
      exact (Option.some.inj this).symm
    subst hx
    have hB4' := hB3.trans (hB4.mono hs3)
    refine cond_t rfl (cond_t (by decide +kernel) (cond_t rfl ?_))
    refine Text_spec ho4.rd (by rw [rowN_length]; decide) fun w5 hB5 => ?_
    have h5 := (h3.ext hB4).ext hB5
    have hB5' := hB4'.trans (hB5.mono hB4'.size)
    refine cond_t (by kernel_rfl) ?_
    refine gTop_spec h5 (cond_t rfl ?_)
    refine gFirst_spec h5 (cond_t rfl ?_)
    refine gBack_spec h5.drew ?_
    exact hK _ hB5'.drew
  · exact absurd hn (by decide)

end Go.Proofs.YtgejghejnibocaaDoor
