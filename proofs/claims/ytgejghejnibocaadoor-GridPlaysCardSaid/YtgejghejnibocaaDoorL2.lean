/- What the functions of lines come to: Right of the program; blank, New, Right, Mend, Same of the reference. -/
import Derived.Test.YtgejghejnibocaaDoorL1
namespace Go.Proofs.YtgejghejnibocaaDoor
open Go.Vc Go.RowKit

theorem rightB_of {xs : List Cell} (h : ∀ i, i < xs.length → okB xs i = true) : rightB xs = true := by
  unfold rightB
  rw [List.all_eq_true]
  exact fun i hi => h i (List.mem_range.1 hi)
theorem rightB_no {xs : List Cell} {i : Nat} (hi : i < xs.length) (h : okB xs i = false) : rightB xs = false := by
  unfold rightB
  rw [List.all_eq_false]
  exact ⟨i, List.mem_range.2 hi, by simp [h]⟩
theorem okB_get {xs : List Cell} {k : Nat} {x : Cell} (hx : xs[k]? = some x) : okB xs k = (fitsB xs k && !(x.Kind == 2 && x.R != 0)) := by
  unfold okB
  rw [kindAt_get hx, hx]
  rfl

theorem get_of {xs : List Cell} {k : Nat} (hk : k < xs.length) : ∃ x, xs[k]? = some x ∧ ∀ h, xs[((k : Int)).toNat]'h = x :=
  ⟨xs[k], List.getElem?_eq_getElem hk, fun _ => rfl⟩

theorem Right_spec {l : Slc} {xs : List Cell} {w : World} {K : Bool → World → Prop} (h : Rd cellE w l xs) (hK : ∀ w', Below w.heap.size w w' → K (rightB xs) w') : c_line_Line_Right l w K := by
  have hm := rd_maxLen h
  refine call_line_Line_Right _ ?_
  unfold sh_line_Line_Right
  refine loopP_rule (fun (s : Int × Unit) w2 => ∃ k : Nat, s.1 = k ∧ k ≤ xs.length ∧ (∀ i, i < k → okB xs i = true) ∧ Below w.heap.size w w2)
    (fun s => xs.length - s.1.toNat) ⟨0, rfl, by omega, fun i hi => by omega, Below.refl _ _⟩ ?_
  rintro ⟨i, _⟩ w2 ⟨k, rfl, hk, ho, hB⟩ I hI
  dsimp only at *
  refine cond_of (fun hlt => ?_) (fun hge => ?_)
  · have hlt := of_decide_eq_true hlt
    rw [h.n] at hlt
    have hkl : k < xs.length := by omega
    obtain ⟨x, hx, hxs⟩ := get_of hkl
    rw [wrap64_id (by omega)]
    have hrd : Rd cellE w2 l xs := h.ext hB
    refine hrd.ix rfl (by omega) (by omega) fun hc => ?_
    rw [hxs] at hc
    refine ldS_of (x := x) hc ?_
    refine box_of rfl fun w4 hb4 hB4 hs4 => ?_
    have hB04 : Below w.heap.size w w4 := hB.trans (hB4.mono hB.size)
    refine fits_spec (h.ext hB04) (by omega) (by omega) ?_
    have hok := okB_get hx
    have fin : okB xs k = true → I ((k : Int) + 1, ()) w4 := fun e => hI _ _ ⟨k + 1, by simp, by omega, fun i hi => by
      rcases Nat.lt_or_ge i k with h' | h'
      · exact ho i h'
      · have : i = k := by omega
        subst this; exact e, hB04⟩ (by simp; omega)
    have no : okB xs k = false → K false w4 := fun e => by
      have := hK w4 hB04
      rwa [rightB_no hkl e] at this
    refine cond_of (fun hf => ?_) (fun hf => ?_)
    · have hf : fitsB xs k = false := by simpa using hf
      exact no (by rw [hok, hf]; rfl)
    · have hf : fitsB xs k = true := by simpa using hf
      refine ldI_of (hb4.cells 1 _ rfl) ?_
      refine cond_of (fun h2 => ?_) (fun h2 => ?_)
      · refine ldI_of (hb4.cells 0 _ rfl) ?_
        refine cond_of (fun h3 => ?_) (fun h3 => ?_)
        · exact no (by rw [hok, hf, h2, h3]; rfl)
        · exact fin (by rw [hok, hf, h2, h3]; rfl)
      · exact fin (by rw [hok, hf, h2]; rfl)
  · have hge := of_decide_eq_false hge
    rw [h.n] at hge
    have := hK w2 hB
    rwa [rightB_of fun i hi => ho i (by omega)] at this

/-! ### The reference -/
theorem rblank_spec {a : Attr} {w : World} {K : Cell → World → Prop} (hK : ∀ w', Below w.heap.size w w' → w.heap.size ≤ w'.heap.size → K (blankC a) w') : c_phosphorref13_blank a w K := by
  refine call_phosphorref13_blank _ ?_
  unfold sh_phosphorref13_blank
  refine nw_blk fun w1 hb1 hB1 hs1 => nw_blk fun w2 hb2 hB2 hs2 => ?_
  refine ldS_of (x := a) (hb1.ext hB2).cells ?_
  refine stK_blk hb2 (by simp) fun w3 hb3 hg3 hs3 => ?_
  refine ldS_of (x := blankC a) hb3.cells ?_
  have hB : Below w.heap.size w w3 := (hB1.trans (hB2.mono (by omega))).grown hg3 (by omega) fun g hg => by cases hg; omega
  exact hK w3 hB hB.size

theorem rNew_spec {n : Int} {a : Attr} {w : World} {K : Slc → World → Prop}
    (hK : ∀ r w', Own cellE w' w.heap.size r (newL n a) → Below w.heap.size w w' → K r w') : c_phosphorref13_New n a w K := by
  refine call_phosphorref13_New _ _ ?_
  unfold sh_phosphorref13_New
  refine nw_blk fun w1 hb1 hB1 hs1 => ?_
  refine cond_of (fun h => ?_) (fun hn => ?_)
  · have h := of_decide_eq_true h
    exact hK _ _ (by rw [newL, if_pos (.inr h)]; exact Own.nil _ _ _) hB1
  have hn := of_decide_eq_false hn
  refine loopP_rule (fun (s : Slc × Int × Unit) w2 => ∃ k : Nat, s.2.1 = k ∧ (k : Int) ≤ max n 0 ∧ Own cellE w2 w.heap.size s.1 (List.replicate k (blankC a)) ∧ Blk w2 w.heap.size 23 (T_api_Attr.rep.cells a) ∧ Below w.heap.size w w2 ∧ w.heap.size < w2.heap.size ∧ (∀ g, s.1.blk = some g → w.heap.size < g))
    (fun s => (n - s.2.1).toNat) ⟨0, rfl, by omega, Own.nil _ _ _, hb1, hB1, by omega, fun g hg => by cases hg⟩ ?_
  rintro ⟨s, i, _⟩ w2 ⟨k, rfl, hk, ho, hb, hB, hlt, hne⟩ I hI
  dsimp only at *
  refine cond_of (fun h => ?_) (fun h => ?_)
  · have h := of_decide_eq_true h
    refine ldS_of hb.cells ?_
    refine rblank_spec fun w2' hB2' hs2' => ?_
    refine nw_blk fun w3 hb3 hB3 hs3 => ?_
    have hB3 : Below w2.heap.size w2 w3 := hB2'.trans (hB3.mono hs2')
    have hd : Rd cellE w3 ⟨some ⟨w2'.heap.size, 0, none⟩, 1, 1⟩ [blankC a] := rd_one (E := cellE) hb3 rfl
    refine apK_own slT24 (ho.ext hB3) hd (by omega) (by rw [by24]; simp; omega) (by simp [maxLen]; omega) fun r w4 ho4 hg4 hr4 => ?_
    rw [wrap64_id (by omega)]
    have hB4 : Below w.heap.size w w4 := (hB.trans (hB3.mono (by omega))).grown hg4 (by omega) fun g hg => by
      exact ((ho.lt g hg).1)
    refine hI (r, (k : Int) + 1, ()) w4 ⟨k + 1, by simp, by omega, ?_, ?_, hB4, ?_, ?_⟩ (by simp; omega)
    · rw [List.replicate_succ']; exact ho4
    · refine (hb.ext hB3).grown hg4 fun e => ?_
      have := hne _ e.symm
      omega
    · have := hg4.size; omega
    · intro g hg
      rcases hr4 with e | e
      · rw [e] at hg; exact hne g hg
      · rw [e] at hg; cases hg; omega
  · have h := of_decide_eq_false h
    refine hK s w2 ?_ hB
    by_cases hn0 : n < 0
    · have : k = 0 := by omega
      rw [newL, if_pos (.inl hn0)]
      subst this; exact ho
    · rw [newL, if_neg (by omega)]
      have : n.toNat = k := by omega
      rw [this]; exact ho

/-- What the reference asks of a cell and those beside it, in its order. -/
theorem rRight_spec {l : Slc} {xs : List Cell} {w : World} {K : Bool → World → Prop} (h : Rd cellE w l xs) (hK : K (rightB xs) w) : c_phosphorref13_Right l w K := by
  have hm := rd_maxLen h
  refine call_phosphorref13_Right _ ?_
  unfold sh_phosphorref13_Right
  refine loopP_rule (fun (s : Int × Unit) w2 => ∃ k : Nat, s.1 = k ∧ k ≤ xs.length ∧ (∀ i, i < k → okB xs i = true) ∧ w2 = w)
    (fun s => xs.length - s.1.toNat) ⟨0, rfl, by omega, fun i hi => by omega, rfl⟩ ?_
  rintro ⟨i, _⟩ w2 ⟨k, rfl, hk, ho, rfl⟩ I hI
  dsimp only at *
  refine cond_of (fun hlt => ?_) (fun hge => ?_)
  · have hlt := of_decide_eq_true hlt
    rw [h.n] at hlt
    have hkl : k < xs.length := by omega
    obtain ⟨x, hx, hxs⟩ := get_of hkl
    rw [wrap64_id (show -9223372036854775808 ≤ (k : Int) + 1 ∧ (k : Int) + 1 ≤ 9223372036854775807 by omega), wrap64_id (show -9223372036854775808 ≤ (k : Int) - 1 ∧ (k : Int) - 1 ≤ 9223372036854775807 by omega)]
    refine h.ix rfl (by omega) (by omega) fun hc => ?_
    rw [hxs] at hc
    refine ldI_of (cell_kind hc) ?_
    have hok := okB_get hx
    have hkk := kindAt_get hx
    have fin : okB xs k = true → I ((k : Int) + 1, ()) w2 := fun e => hI _ _ ⟨k + 1, by simp, by omega, fun i hi => by
      rcases Nat.lt_or_ge i k with h' | h'
      · exact ho i h'
      · have : i = k := by omega
        subst this; exact e, rfl⟩ (by simp; omega)
    have no : okB xs k = false → K false w2 := fun e => by rwa [rightB_no hkl e] at hK
    have fits0 : x.Kind = 0 → fitsB xs k = true := fun e => by rw [fitsB, if_pos (by rw [hkk, e])]
    have fits1 : x.Kind = 1 → fitsB xs k = isB xs ((k : Int) + 1) 2 := fun e => by rw [fitsB, if_neg (by rw [hkk, e]; decide), if_pos (by rw [hkk, e])]
    have fits2 : x.Kind = 2 → fitsB xs k = isB xs ((k : Int) - 1) 1 := fun e => by rw [fitsB, if_neg (by rw [hkk, e]; decide), if_neg (by rw [hkk, e]; decide), if_pos (by rw [hkk, e])]
    have fitsN : x.Kind ≠ 0 → x.Kind ≠ 1 → x.Kind ≠ 2 → fitsB xs k = false := fun e0 e1 e2 => by rw [fitsB, if_neg (by rw [hkk]; exact e0), if_neg (by rw [hkk]; exact e1), if_neg (by rw [hkk]; exact e2)]
    refine joinP_of fun J hJ => ?_
    have out : (x.Kind < 0 ∨ x.Kind > 2) → J (true, ()) w2 := fun e => hJ _ _ (no (by rw [hok, fitsN (by omega) (by omega) (by omega)]; rfl))
    have inn : ¬ (x.Kind < 0 ∨ x.Kind > 2) → J (false, ()) w2 := fun e => hJ _ _ (by
      dsimp only [cond_false]
      refine joinP_of fun J3 hJ3 => ?_
      have bad : x.Kind = 1 → isB xs ((k : Int) + 1) 2 = false → J3 (true, ()) w2 := fun e1 e2 => hJ3 _ _ (no (by rw [hok, fits1 e1, e2]; rfl))
      have good1 : x.Kind = 1 → isB xs ((k : Int) + 1) 2 = true → J3 (false, ()) w2 := fun e1 e2 => hJ3 _ _ (by
        dsimp only [cond_false]
        refine cond_f (by rw [e1]; rfl) (fin (by rw [hok, fits1 e1, e2, e1]; rfl)))
      have good : x.Kind ≠ 1 → J3 (false, ()) w2 := fun e1 => hJ3 _ _ (by
        dsimp only [cond_false]
        refine cond_of (fun h2 => ?_) (fun h2 => ?_)
        · have e2 := eq_of_beq h2
          refine cond_of (fun h0 => ?_) (fun h0 => ?_)
          · have h0 := eq_of_beq h0
            refine no ?_
            have : isB xs ((k : Int) - 1) 1 = false := by unfold isB; rw [decide_eq_false (by omega)]; rfl
            rw [hok, fits2 e2, this]; rfl
          · have h0 := beq_eq_false_iff_ne.1 h0
            refine h.ix rfl (by omega) (by omega) fun hc1 => ldI_of (cell_kind hc1) ?_
            have hb : isB xs ((k : Int) - 1) 1 = (xs[((k : Int) - 1).toNat].Kind == 1) := by
              unfold isB
              rw [decide_eq_true (by omega), decide_eq_true (by omega), kindAt_int (by omega) (by omega)]
              rfl
            refine cond_of (fun h1 => ?_) (fun h1 => ?_)
            · have h1 : (xs[((k : Int) - 1).toNat].Kind == 1) = false := by simpa using h1
              exact no (by rw [hok, fits2 e2, hb, h1]; rfl)
            · have h1 : (xs[((k : Int) - 1).toNat].Kind == 1) = true := by simpa using h1
              refine h.ix rfl (by omega) (by omega) fun hc => ?_
              rw [hxs] at hc
              refine ldI_of (cell_r hc) ?_
              refine cond_of (fun h3 => ?_) (fun h3 => ?_)
              · exact no (by rw [hok, fits2 e2, hb, h1, e2, h3]; rfl)
              · exact fin (by rw [hok, fits2 e2, hb, h1, e2, h3]; rfl)
        · have e2 := beq_eq_false_iff_ne.1 h2
          have e0 : x.Kind = 0 := by omega
          exact fin (by rw [hok, fits0 e0, e0]; rfl))
      refine cond_of (fun h1 => ?_) (fun h1 => ?_)
      · have e1 := eq_of_beq h1
        refine cond_of (fun h2 => ?_) (fun h2 => ?_)
        · have h2 := of_decide_eq_true h2
          rw [h.n] at h2
          refine bad e1 ?_
          unfold isB
          rw [decide_eq_true (show 0 ≤ (k : Int) + 1 by omega), decide_eq_false (by omega)]
          rfl
        · have h2 := of_decide_eq_false h2
          rw [h.n] at h2
          refine h.ix rfl (by omega) (by omega) fun hc1 => ldI_of (cell_kind hc1) ?_
          have hb : isB xs ((k : Int) + 1) 2 = (xs[((k : Int) + 1).toNat].Kind == 2) := by
            unfold isB
            rw [decide_eq_true (by omega), decide_eq_true (by omega), kindAt_int (by omega) (by omega)]
            rfl
          cases hq : (xs[((k : Int) + 1).toNat].Kind == 2) with
          | true =>
            rw [show (xs[((k : Int) + 1).toNat].Kind != 2) = false by rw [bne, hq]; rfl]
            exact good1 e1 (by rw [hb, hq])
          | false =>
            rw [show (xs[((k : Int) + 1).toNat].Kind != 2) = true by rw [bne, hq]; rfl]
            exact bad e1 (by rw [hb, hq])
      · exact good (beq_eq_false_iff_ne.1 h1))
    refine cond_of (fun h0 => ?_) (fun h0 => ?_)
    · exact out (.inl (of_decide_eq_true h0))
    · have h0 := of_decide_eq_false h0
      by_cases h2 : x.Kind > 2
      · rw [decide_eq_true h2]; exact out (.inr h2)
      · rw [decide_eq_false h2]; exact inn (by omega)
  · have hge := of_decide_eq_false hge
    rw [h.n] at hge
    rwa [rightB_of fun i hi => ho i (by omega)] at hK

end Go.Proofs.YtgejghejnibocaaDoor
