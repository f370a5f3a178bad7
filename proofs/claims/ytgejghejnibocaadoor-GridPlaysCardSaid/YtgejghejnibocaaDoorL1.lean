/- What the functions of lines come to: blanks, New, is, fits, Right, Clone, Mend of the program; blank, New, Right, Mend, Same of the reference. -/
import Derived.Test.YtgejghejnibocaaDoorMem
import Derived.Test.YtgejghejnibocaaDoorSh0
import Derived.Test.YtgejghejnibocaaDoorSh1
import Derived.Test.YtgejghejnibocaaDoorSh2
namespace Go.Proofs.YtgejghejnibocaaDoor
open Go.Vc Go.RowKit

abbrev Cell := T_api_Cell
abbrev Attr := T_api_Attr
instance : Inhabited T_api_Attr := ⟨⟨0, 0, 0⟩⟩
instance : Inhabited T_api_Cell := ⟨⟨0, 0, ⟨0, 0, 0⟩⟩⟩

def cellE : El T_api_Cell where
  cells := T_api_Cell.rep.cells
  t := 42
  k := 5
  pos := by decide
  len _ := rfl
  one x v hv := by
    simp only [T_api_Cell.rep, List.mem_cons, List.mem_nil_iff, or_false] at hv
    rcases hv with rfl | rfl | rfl | rfl | rfl <;> rfl

noncomputable def slT25 : SlT Tryd.prog cellE 25 where
  ht := by kernel_rfl
  i := (Tryd.prog.info? 42).getD default
  hi := by kernel_rfl
  z := .agg #[.int .i32 0, .int .i64 0, .int .i64 0, .int .i64 0, .int .i64 0]
  hz := by kernel_rfl
  hs := by kernel_rfl
  hzs := rfl
noncomputable def slT24 : SlT Tryd.prog cellE 24 where
  ht := by kernel_rfl
  i := (Tryd.prog.info? 42).getD default
  hi := by kernel_rfl
  z := .agg #[.int .i32 0, .int .i64 0, .int .i64 0, .int .i64 0, .int .i64 0]
  hz := by kernel_rfl
  hs := by kernel_rfl
  hzs := rfl
theorem by25 : slT25.i.bytes = 40 := by kernel_rfl
theorem by24 : slT24.i.bytes = 40 := by kernel_rfl

/-! ### What is reckoned -/
def kindAt (xs : List Cell) (i : Int) : Int := if 0 ≤ i then ((xs[i.toNat]?).map (·.Kind)).getD (-1) else -1
def isB (xs : List Cell) (col kind : Int) : Bool := decide (0 ≤ col) && decide (col < xs.length) && (kindAt xs col == kind)
def fitsB (xs : List Cell) (i : Int) : Bool :=
  if kindAt xs i = 0 then true else if kindAt xs i = 1 then isB xs (i + 1) 2 else if kindAt xs i = 2 then isB xs (i - 1) 1 else false
def okB (xs : List Cell) (i : Nat) : Bool := fitsB xs i && !(kindAt xs i == 2 && ((xs[i]?).map (·.R)).getD 0 != 0)
def rightB (xs : List Cell) : Bool := (List.range xs.length).all (okB xs)
def blankC (a : Attr) : Cell := ⟨0, 0, a⟩
def mendC (xs : List Cell) (i : Nat) (c : Cell) : Cell :=
  if c.Kind ≠ 0 ∧ c.Kind ≠ 1 ∧ c.Kind ≠ 2 then { c with Kind := 0 } else if fitsB xs i = false then blankC c.A else if c.Kind = 2 then { c with R := 0 } else c
def mendL (xs : List Cell) : List Cell := xs.mapIdx (mendC xs)
theorem mendL_length (xs : List Cell) : (mendL xs).length = xs.length := by simp [mendL]
theorem mendL_get (xs : List Cell) (i : Nat) (x : Cell) (h : xs[i]? = some x) : (mendL xs)[i]? = some (mendC xs i x) := by simp [mendL, h]

theorem kindAt_get {xs : List Cell} {i : Nat} {x : Cell} (h : xs[i]? = some x) : kindAt xs i = x.Kind := by simp [kindAt, h]
theorem kindAt_int {xs : List Cell} {i : Int} (h0 : 0 ≤ i) (h1 : i < xs.length) : kindAt xs i = (xs[i.toNat]'(by omega)).Kind := by
  have : i.toNat < xs.length := by omega
  simp [kindAt, h0, this]

/-! ### Cells in memory -/
theorem cell_kind {w : World} {a : Addr} {c : Cell} (h : cellsAt w a (cellE.cells c)) : w.cell? (a.add 1) = some (.int .i64 c.Kind) := h 1 _ rfl
theorem cell_r {w : World} {a : Addr} {c : Cell} (h : cellsAt w a (cellE.cells c)) : w.cell? (a.add 0) = some (.int .i32 c.R) := h 0 _ rfl
theorem cell_a {w : World} {a : Addr} {c : Cell} (h : cellsAt w a (cellE.cells c)) : cellsAt w (a.add 2) (T_api_Attr.rep.cells c.A) :=
  h.sub 2 fun j v hj => by
    match j, hj with
    | 0, hj => exact hj
    | 1, hj => exact hj
    | 2, hj => exact hj
    | j + 3, hj => cases hj

theorem rd_maxLen {w : World} {s : Slc} {xs : List Cell} (h : Rd cellE w s xs) : xs.length ≤ 9223372036854775807 := by
  have h1 := h.n
  have h2 := h.nc
  have h3 := h.cm
  unfold maxLen at h3
  rw [h1] at h2
  omega

/-! ### is, fits -/
theorem is_spec {l : Slc} {xs : List Cell} {col kind : Int} {w : World} {K : Bool → World → Prop} (h : Rd cellE w l xs) (hK : K (isB xs col kind) w) : c_line_Line_is l col kind w K := by
  refine call_line_Line_is _ _ _ ?_
  unfold sh_line_Line_is
  refine cond_of (fun h1 => ?_) (fun h1 => ?_)
  · have h1 := of_decide_eq_true h1
    refine cond_of (fun h2 => ?_) (fun h2 => ?_)
    · have h2 := of_decide_eq_true h2
      rw [h.n] at h2
      refine h.ix rfl h1 h2 fun hc => ldI_of (cell_kind hc) ?_
      have e : isB xs col kind = (xs[col.toNat].Kind == kind) := by
        unfold isB
        rw [decide_eq_true (show 0 ≤ col from h1), decide_eq_true h2, kindAt_int h1 h2]
        rfl
      rw [← e]
      exact hK
    · have h2 := of_decide_eq_false h2
      rw [h.n] at h2
      have e : isB xs col kind = false := by
        unfold isB
        rw [decide_eq_false h2]
        simp
      rw [← e]
      exact hK
  · have h1 := of_decide_eq_false h1
    have e : isB xs col kind = false := by simp only [isB, decide_eq_false (show ¬ 0 ≤ col from h1), Bool.false_and]
    rw [← e]
    exact hK

theorem fits_spec {l : Slc} {xs : List Cell} {col : Int} {w : World} {K : Bool → World → Prop} (h : Rd cellE w l xs) (h0 : 0 ≤ col) (h1 : col < xs.length) (hK : K (fitsB xs col) w) : c_line_Line_fits l col w K := by
  have hm := rd_maxLen h
  refine call_line_Line_fits _ _ ?_
  unfold sh_line_Line_fits
  refine h.ix rfl h0 h1 fun hc => ldI_of (cell_kind hc) ?_
  rw [← kindAt_int h0 h1]
  rw [wrap64_id (show -9223372036854775808 ≤ col + 1 ∧ col + 1 ≤ 9223372036854775807 by omega), wrap64_id (show -9223372036854775808 ≤ col - 1 ∧ col - 1 ≤ 9223372036854775807 by omega)]
  unfold fitsB at hK
  refine cond_of (fun e => ?_) (fun e => ?_)
  · rw [if_pos (eq_of_beq e)] at hK; exact hK
  · have e := beq_eq_false_iff_ne.1 e
    rw [if_neg e] at hK
    refine cond_of (fun e => ?_) (fun e => ?_)
    · rw [if_pos (eq_of_beq e)] at hK; exact is_spec h hK
    · have e := beq_eq_false_iff_ne.1 e
      rw [if_neg e] at hK
      refine cond_of (fun e => ?_) (fun e => ?_)
      · rw [if_pos (eq_of_beq e)] at hK; exact is_spec h hK
      · have e := beq_eq_false_iff_ne.1 e
        rw [if_neg e] at hK
        exact hK

/-! ### blanks, New -/
theorem blanks_spec {n : Int} {a : Attr} {w : World} {K : Slc → World → Prop} (hn : n ≤ 1000000)
    (hK : ∀ r w', Own cellE w' w.heap.size r (List.replicate n.toNat (blankC a)) → Below w.heap.size w w' → K r w') : c_line_blanks n a w K := by
  refine call_line_blanks _ _ ?_
  unfold sh_line_blanks
  refine nw_blk fun w1 hb1 hB1 hs1 => ?_
  refine loopP_rule (fun (s : Slc × Int × Unit) w2 => ∃ k : Nat, s.2.1 = k ∧ (k : Int) ≤ max n 0 ∧ Own cellE w2 w.heap.size s.1 (List.replicate k (blankC a)) ∧ Blk w2 w.heap.size 23 (T_api_Attr.rep.cells a) ∧ Below w.heap.size w w2 ∧ w.heap.size < w2.heap.size ∧ (∀ g, s.1.blk = some g → w.heap.size < g))
    (fun s => (n - s.2.1).toNat) ⟨0, rfl, by omega, Own.nil _ _ _, hb1, hB1, by omega, fun g hg => by cases hg⟩ ?_
  rintro ⟨s, i, _⟩ w2 ⟨k, rfl, hk, ho, hb, hB, hlt, hne⟩ I hI
  dsimp only at *
  refine cond_of (fun h => ?_) (fun h => ?_)
  · have h := of_decide_eq_true h
    refine ldS_of hb.cells ?_
    refine nw_blk fun w3 hb3 hB3 hs3 => ?_
    have hd : Rd cellE w3 ⟨some ⟨w2.heap.size, 0, none⟩, 1, 1⟩ [blankC a] := rd_one (E := cellE) hb3 rfl
    refine apK_own slT25 (ho.ext hB3) hd (by omega) (by rw [by25]; simp; omega) (by simp [maxLen]; omega) fun r w4 ho4 hg4 hr4 => ?_
    rw [wrap64_id (by omega)]
    have hB4 : Below w.heap.size w w4 := (hB.trans (hB3.mono (by omega))).grown hg4 (by omega) fun g hg => by
      exact ((ho.lt g hg).1)
    refine hI (r, (k : Int) + 1, ()) w4 ⟨k + 1, by simp, by omega, ?_, ?_, hB4, ?_, ?_⟩ (by simp; omega)
    · rw [List.replicate_succ']; exact ho4
    · refine (hb.ext hB3).grown hg4 fun e => ?_
      have := hne _ e.symm
      omega
    · have := hg4.size; omega
    · intro g hg
      rcases hr4 with e | e
      · rw [e] at hg; exact hne g hg
      · rw [e] at hg; cases hg; omega
  · have h := of_decide_eq_false h
    refine hK s w2 ?_ hB
    have : n.toNat = k := by omega
    rw [this]; exact ho

def newL (cols : Int) (a : Attr) : List Cell := if cols < 0 ∨ cols > 1000 then [] else List.replicate cols.toNat (blankC a)

theorem New_spec {n : Int} {a : Attr} {w : World} {K : Slc → World → Prop}
    (hK : ∀ r w', Own cellE w' w.heap.size r (newL n a) → Below w.heap.size w w' → K r w') : c_line_New n a w K := by
  refine call_line_New _ _ ?_
  unfold sh_line_New
  refine nw_blk fun w1 hb1 hB1 hs1 => ?_
  refine joinP_of fun J hJ => ?_
  have nilc : (n < 0 ∨ n > 1000) → K ⟨none, 0, 0⟩ w1 := fun h => hK _ _ (by rw [newL, if_pos h]; exact Own.nil _ _ _) hB1
  refine cond_of (fun h => nilc (.inl (of_decide_eq_true h))) (fun h => ?_)
  refine cond_of (fun h => nilc (.inr (of_decide_eq_true h))) (fun h' => ?_)
  have h := of_decide_eq_false h
  have h' := of_decide_eq_false h'
  refine hJ _ _ (ldS_of hb1.cells (blanks_spec (by omega) fun r w' ho hB => hK r w' ?_ (hB1.trans (hB.mono (by omega)))))
  rw [newL, if_neg (by omega)]
  exact ho.base (by omega)

/-! ### Clone -/
theorem Clone_spec {s : Slc} {xs : List Cell} {w : World} {K : Slc → World → Prop} (h : Rd cellE w s xs) (hl : xs.length ≤ 1000000)
    (hK : ∀ r w', Own cellE w' w.heap.size r xs → Below w.heap.size w w' → K r w') : c_slices_Clone_line_Line_api_Cell s w K := by
  refine call_slices_Clone_line_Line_api_Cell _ ?_
  unfold sh_slices_Clone_line_Line_api_Cell
  refine cond_of (fun e => ?_) (fun e => ?_)
  · have : s.a = none := by cases ha : s.a with
      | none => rfl
      | some a => rw [ha] at e; cases e
    rw [h.none_nil this] at hK
    exact hK _ _ (Own.nil _ _ _) (Below.refl _ _)
  · refine nw_blk fun w1 hb1 hB1 hs1 => ?_
    refine apK_own slT25 (own_empty (E := cellE) hb1 (Nat.le_refl _)) (h.ext hB1) (by omega) (by rw [by25]; simp; omega) (by simp [maxLen]; omega) fun r w2 ho2 hg2 hr2 => ?_
    exact hK r w2 (by simpa using ho2) (hB1.grown hg2 (by omega) fun g hg => by cases hg; exact Nat.le_refl _)

/-! ### Mend -/
theorem Mend_spec {l : Slc} {xs : List Cell} {w : World} {K : Slc → World → Prop} (h : Rd cellE w l xs) (hl : xs.length ≤ 1000000)
    (hK : ∀ r w', Own cellE w' w.heap.size r (mendL xs) → Below w.heap.size w w' → K r w') : c_line_Line_Mend l w K := by
  refine call_line_Line_Mend _ ?_
  unfold sh_line_Line_Mend
  refine Clone_spec h hl fun r w1 ho1 hB1 => ?_
  refine loopP_rule (fun (s : Int × Unit) w2 => ∃ k : Nat, s.1 = k ∧ k ≤ xs.length ∧ Own cellE w2 w.heap.size r (mix (mendL xs) xs k) ∧ Below w.heap.size w w2)
    (fun s => xs.length - s.1.toNat) ⟨0, rfl, by omega, by rw [mix_zero]; exact ho1, hB1⟩ ?_
  rintro ⟨i, _⟩ w2 ⟨k, rfl, hk, ho, hB⟩ I hI
  dsimp only at *
  have hml := mendL_length xs
  refine cond_of (fun hlt => ?_) (fun hge => ?_)
  · have hlt := of_decide_eq_true hlt
    rw [h.n] at hlt
    have hkl : k < xs.length := by omega
    obtain ⟨x, hx⟩ : ∃ x, xs[k]? = some x := ⟨xs[k], List.getElem?_eq_getElem hkl⟩
    have hxs : xs[((k : Int)).toNat]'(by omega) = x := by
      have := List.getElem?_eq_getElem hkl
      rw [hx] at this
      exact (Option.some.inj this).symm
    have hm := mendL_get xs k x hx
    have hcur : (mix (mendL xs) xs k)[k]? = some x := by rw [mix_get hml hkl, if_neg (by omega)]; exact hx
    rw [wrap64_id (by omega)]
    have hr0 : r.n = xs.length := by have := ho.rd.n; rwa [mix_length hml] at this
    -- the end of a round
    have fin : ∀ w', Own cellE w' w.heap.size r (mix (mendL xs) xs (k + 1)) → Below w.heap.size w w' → I ((k : Int) + 1, ()) w' := fun w' ho' hB' =>
      hI _ _ ⟨k + 1, by simp, by omega, ho', hB'⟩ (by simp; omega)
    have hrd : Rd cellE w2 l xs := h.ext hB
    refine hrd.ix rfl (by omega) (by omega) fun hc => ?_
    rw [hxs] at hc
    refine ldS_of (x := x) hc ?_
    refine box_of rfl fun w4 hb4 hB4 hs4 => ?_
    have ho4 := ho.ext hB4
    have hB04 : Below w.heap.size w w4 := hB.trans (hB4.mono hB.size)
    have hsz : w.heap.size ≤ w2.heap.size := hB.size
    -- writing into the result
    have wr : ∀ (w5 : World) (y : Cell) (j : Nat) (us : List Value), Own cellE w5 w.heap.size r (mix (mendL xs) xs k) → Below w.heap.size w w5 → mendC xs k x = y → j + us.length ≤ 5 → cellE.cells y = putL (cellE.cells x) j us →
        ixK r (k : Int) 5 fun t => stK (t.add j) us w5 fun w6 => I ((k : Int) + 1, ()) w6 := by
      intro w5 y j us ho5 hB5 hy hj hp
      refine ho5.rd.ix (xs := mix (mendL xs) xs k) rfl (by omega) (by rw [mix_length hml]; omega) fun _ => ?_
      refine ho5.st (i := k) (x := x) (y := y) (by simpa using hcur) hj hp fun w6 ho6 hg6 hs6 => fin _ ?_ ?_
      · rw [mix_set hml hkl (by rw [hm, hy])] at ho6; exact ho6
      · exact hB5.grown hg6 hB5.size fun g hg => (ho5.lt g hg).1
    have wr0 : ∀ (w5 : World) (y : Cell) (us : List Value), Own cellE w5 w.heap.size r (mix (mendL xs) xs k) → Below w.heap.size w w5 → mendC xs k x = y → cellE.cells y = us →
        ixK r (k : Int) 5 fun t => stK t us w5 fun w6 => I ((k : Int) + 1, ()) w6 := by
      intro w5 y us ho5 hB5 hy hp
      refine ho5.rd.ix (xs := mix (mendL xs) xs k) rfl (by omega) (by rw [mix_length hml]; omega) fun _ => ?_
      refine ho5.st0 (i := k) (x := x) (y := y) (by simpa using hcur) hp fun w6 ho6 hg6 hs6 => fin _ ?_ ?_
      · rw [mix_set hml hkl (by rw [hm, hy])] at ho6; exact ho6
      · exact hB5.grown hg6 hB5.size fun g hg => (ho5.lt g hg).1
    refine joinP_of fun J hJ => ?_
    have kind4 : w4.cell? ((⟨w2.heap.size, 0, none⟩ : Addr).add 1) = some (.int .i64 x.Kind) := hb4.cells 1 _ rfl
    -- behind the join: the cell is of no kind, or it is of one
    have bad : (x.Kind ≠ 0 ∧ x.Kind ≠ 1 ∧ x.Kind ≠ 2) → J (true, ()) w4 := fun hb => hJ _ _ (by
      dsimp only [cond_true]
      exact wr w4 { x with Kind := 0 } 1 _ ho4 hB04 (by rw [mendC, if_pos hb]) (by simp) rfl)
    have good : ¬ (x.Kind ≠ 0 ∧ x.Kind ≠ 1 ∧ x.Kind ≠ 2) → J (false, ()) w4 := fun hg => hJ _ _ (by
      dsimp only [cond_false]
      refine fits_spec (h.ext hB04) (by omega) (by omega) ?_
      refine cond_of (fun hf => ?_) (fun hf => ?_)
      · have hf : fitsB xs k = false := by simpa using hf
        refine ldS_of (x := x.A) (cell_a hb4.cells) ?_
        exact wr0 w4 (blankC x.A) _ ho4 hB04 (by rw [mendC, if_neg hg, if_pos hf]) rfl
      · have hf : ¬ fitsB xs k = false := by simpa using hf
        refine ldI_of kind4 ?_
        refine cond_of (fun h2 => ?_) (fun h2 => ?_)
        · have h2 := eq_of_beq h2
          exact wr w4 { x with R := 0 } 0 _ ho4 hB04 (by rw [mendC, if_neg hg, if_neg hf, if_pos h2]) (by simp) rfl
        · have h2 := beq_eq_false_iff_ne.1 h2
          have hy : mendC xs k x = x := by rw [mendC, if_neg hg, if_neg hf, if_neg h2]
          refine fin _ ?_ hB04
          rw [← mix_same hml hkl (by rw [hm, hx, hy])]
          exact ho4)
    refine ldI_of kind4 ?_
    refine cond_of (fun h0 => ?_) (fun h0 => ?_)
    · have h0 : x.Kind ≠ 0 := by simpa using h0
      refine ldI_of kind4 ?_
      refine cond_of (fun h1 => ?_) (fun h1 => ?_)
      · have h1 : x.Kind ≠ 1 := by simpa using h1
        refine ldI_of kind4 ?_
        by_cases h2 : x.Kind = 2
        · rw [show (x.Kind != 2) = false by simp [h2]]
          exact good fun hb => hb.2.2 h2
        · rw [show (x.Kind != 2) = true by simpa using h2]
          exact bad ⟨h0, h1, h2⟩
      · have h1 : x.Kind = 1 := by simpa using h1
        exact good fun hb => hb.2.1 h1
    · have h0 : x.Kind = 0 := by simpa using h0
      exact good fun hb => hb.1 h0
  · have hge := of_decide_eq_false hge
    rw [h.n] at hge
    have : k = xs.length := by omega
    subst this
    rw [mix_all hml] at ho
    exact hK r w2 ho hB

end Go.Proofs.YtgejghejnibocaaDoor
