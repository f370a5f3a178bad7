/- What the functions of lines come to: Mend, Same of the reference. -/
import Derived.Test.YtgejghejnibocaaDoorL2
namespace Go.Proofs.YtgejghejnibocaaDoor
open Go.Vc Go.RowKit

/-- The cell behind, as the reference asks for it. -/
theorem next_ask {l : Slc} {xs : List Cell} {w : World} (h : Rd cellE w l xs) {k : Nat} (hk : k < xs.length) {J : Bool × Unit → World → Prop} (hm : xs.length ≤ 9223372036854775807)
    (h1 : isB xs ((k : Int) + 1) 2 = true → J (false, ()) w) (h2 : isB xs ((k : Int) + 1) 2 = false → J (true, ()) w) :
    cond (decide ((IntKind.i64.wrap ((k : Int) + (1 : Int))) ≥ ((l.n : Nat) : Int))) (J (true, ()) w) (ixK l (IntKind.i64.wrap ((k : Int) + (1 : Int))) 5 fun t46 => ldI .i64 (t46.add 1) w fun t48 => J ((t48 != (2 : Int)), ()) w) := by
  rw [wrap64_id (by omega)]
  refine cond_of (fun e => ?_) (fun e => ?_)
  · have e := of_decide_eq_true e
    rw [h.n] at e
    refine h2 ?_
    unfold isB
    rw [decide_eq_true (show 0 ≤ (k : Int) + 1 by omega), decide_eq_false (by omega)]
    rfl
  · have e := of_decide_eq_false e
    rw [h.n] at e
    refine h.ix rfl (by omega) (by omega) fun hc1 => ldI_of (cell_kind hc1) ?_
    have hb : isB xs ((k : Int) + 1) 2 = (xs[((k : Int) + 1).toNat].Kind == 2) := by
      unfold isB
      rw [decide_eq_true (by omega), decide_eq_true (by omega), kindAt_int (by omega) (by omega)]
      rfl
    cases hq : (xs[((k : Int) + 1).toNat].Kind == 2) with
    | true =>
      rw [show (xs[((k : Int) + 1).toNat].Kind != 2) = false by rw [bne, hq]; rfl]
      exact h1 (by rw [hb, hq])
    | false =>
      rw [show (xs[((k : Int) + 1).toNat].Kind != 2) = true by rw [bne, hq]; rfl]
      exact h2 (by rw [hb, hq])

/-- The cell ahead. -/
theorem ahead_ask {l : Slc} {xs : List Cell} {w : World} (h : Rd cellE w l xs) {k : Nat} (hk : k < xs.length) {J : Bool × Unit → World → Prop} (hm : xs.length ≤ 9223372036854775807)
    (h1 : isB xs ((k : Int) - 1) 1 = true → J (false, ()) w) (h2 : isB xs ((k : Int) - 1) 1 = false → J (true, ()) w) :
    cond ((k : Int) == (0 : Int)) (J (true, ()) w) (ixK l (IntKind.i64.wrap ((k : Int) - (1 : Int))) 5 fun t46 => ldI .i64 (t46.add 1) w fun t48 => J ((t48 != (1 : Int)), ()) w) := by
  rw [wrap64_id (by omega)]
  refine cond_of (fun e => ?_) (fun e => ?_)
  · have e := eq_of_beq e
    refine h2 ?_
    unfold isB
    rw [decide_eq_false (by omega)]
    rfl
  · have e := beq_eq_false_iff_ne.1 e
    refine h.ix rfl (by omega) (by omega) fun hc1 => ldI_of (cell_kind hc1) ?_
    have hb : isB xs ((k : Int) - 1) 1 = (xs[((k : Int) - 1).toNat].Kind == 1) := by
      unfold isB
      rw [decide_eq_true (by omega), decide_eq_true (by omega), kindAt_int (by omega) (by omega)]
      rfl
    cases hq : (xs[((k : Int) - 1).toNat].Kind == 1) with
    | true =>
      rw [show (xs[((k : Int) - 1).toNat].Kind != 1) = false by rw [bne, hq]; rfl]
      exact h1 (by rw [hb, hq])
    | false =>
      rw [show (xs[((k : Int) - 1).toNat].Kind != 1) = true by rw [bne, hq]; rfl]
      exact h2 (by rw [hb, hq])

theorem fits_cases {xs : List Cell} {k : Nat} {x : Cell} (hx : xs[k]? = some x) :
    (x.Kind = 0 → fitsB xs k = true) ∧ (x.Kind = 1 → fitsB xs k = isB xs ((k : Int) + 1) 2) ∧ (x.Kind = 2 → fitsB xs k = isB xs ((k : Int) - 1) 1) := by
  have hkk := kindAt_get hx
  refine ⟨fun e => ?_, fun e => ?_, fun e => ?_⟩
  · rw [fitsB, if_pos (by rw [hkk, e])]
  · rw [fitsB, if_neg (by rw [hkk, e]; decide), if_pos (by rw [hkk, e])]
  · rw [fitsB, if_neg (by rw [hkk, e]; decide), if_neg (by rw [hkk, e]; decide), if_pos (by rw [hkk, e])]

theorem rMend_spec {l : Slc} {xs : List Cell} {w : World} {K : Slc → World → Prop} (h : Rd cellE w l xs) (hl : xs.length ≤ 1000000)
    (hK : ∀ r w', Own cellE w' w.heap.size r (mendL xs) → Below w.heap.size w w' → K r w') : c_phosphorref13_Mend l w K := by
  have hm := rd_maxLen h
  refine call_phosphorref13_Mend _ ?_
  unfold sh_phosphorref13_Mend
  refine nw_blk fun w1 hb1 hB1 hs1 => ?_
  refine apK_own slT24 (own_empty (E := cellE) hb1 (Nat.le_refl _)) (h.ext hB1) (by omega) (by rw [by24]; simp; omega) (by simp [maxLen]; omega) fun r w1' ho1 hg1 hr1 => ?_
  have ho1 : Own cellE w1' w.heap.size r xs := ho1
  have hB1 : Below w.heap.size w w1' := hB1.grown hg1 (by omega) fun g hg => by cases hg; exact Nat.le_refl _
  refine loopP_rule (fun (s : Int × Unit) w2 => ∃ k : Nat, s.1 = k ∧ k ≤ xs.length ∧ Own cellE w2 w.heap.size r (mix (mendL xs) xs k) ∧ Below w.heap.size w w2)
    (fun s => xs.length - s.1.toNat) ⟨0, rfl, by omega, by rw [mix_zero]; exact ho1, hB1⟩ ?_
  rintro ⟨i, _⟩ w2 ⟨k, rfl, hk, ho, hB⟩ I hI
  dsimp only at *
  have hml := mendL_length xs
  refine cond_of (fun hlt => ?_) (fun hge => ?_)
  · have hlt := of_decide_eq_true hlt
    rw [h.n] at hlt
    have hkl : k < xs.length := by omega
    obtain ⟨x, hx, hxs⟩ := get_of hkl
    have hme := mendL_get xs k x hx
    have hcur : (mix (mendL xs) xs k)[k]? = some x := by rw [mix_get hml hkl, if_neg (by omega)]; exact hx
    have hwr : IntKind.i64.wrap ((k : Int) + 1) = (k : Int) + 1 := wrap64_id (by omega)
    have hr0 : r.n = xs.length := by have := ho.rd.n; rwa [mix_length hml] at this
    obtain ⟨f0, f1, f2⟩ := fits_cases hx
    have fin : ∀ w', Own cellE w' w.heap.size r (mix (mendL xs) xs (k + 1)) → Below w.heap.size w w' → I (IntKind.i64.wrap ((k : Int) + 1), ()) w' := fun w' ho' hB' => by
      rw [hwr]
      exact hI _ _ ⟨k + 1, by simp, by omega, ho', hB'⟩ (by simp; omega)
    have hrd : Rd cellE w2 l xs := h.ext hB
    refine hrd.ix rfl (by omega) (by omega) fun hc => ?_
    rw [hxs] at hc
    refine ldS_of (x := x) hc ?_
    refine box_of rfl fun w4 hb4 hB4 hs4 => ?_
    have ho4 := ho.ext hB4
    have hB04 : Below w.heap.size w w4 := hB.trans (hB4.mono hB.size)
    have hrd4 : Rd cellE w4 l xs := h.ext hB04
    have hsz : w.heap.size ≤ w2.heap.size := hB.size
    have wr : ∀ (w5 : World) (y : Cell) (j : Nat) (us : List Value), Own cellE w5 w.heap.size r (mix (mendL xs) xs k) → Below w.heap.size w w5 → mendC xs k x = y → j + us.length ≤ 5 → cellE.cells y = putL (cellE.cells x) j us →
        ixK r (k : Int) 5 fun t => stK (t.add j) us w5 fun w6 => I (IntKind.i64.wrap ((k : Int) + 1), ()) w6 := by
      intro w5 y j us ho5 hB5 hy hj hp
      refine ho5.rd.ix (xs := mix (mendL xs) xs k) rfl (by omega) (by rw [mix_length hml]; omega) fun _ => ?_
      refine ho5.st (i := k) (x := x) (y := y) (by simpa using hcur) hj hp fun w6 ho6 hg6 hs6 => fin _ ?_ ?_
      · rw [mix_set hml hkl (by rw [hme, hy])] at ho6; exact ho6
      · exact hB5.grown hg6 hB5.size fun g hg => (ho5.lt g hg).1
    have wr0 : ∀ (w5 : World) (y : Cell) (us : List Value), Own cellE w5 w.heap.size r (mix (mendL xs) xs k) → Below w.heap.size w w5 → mendC xs k x = y → cellE.cells y = us →
        ixK r (k : Int) 5 fun t => stK t us w5 fun w6 => I (IntKind.i64.wrap ((k : Int) + 1), ()) w6 := by
      intro w5 y us ho5 hB5 hy hp
      refine ho5.rd.ix (xs := mix (mendL xs) xs k) rfl (by omega) (by rw [mix_length hml]; omega) fun _ => ?_
      refine ho5.st0 (i := k) (x := x) (y := y) (by simpa using hcur) hp fun w6 ho6 hg6 hs6 => fin _ ?_ ?_
      · rw [mix_set hml hkl (by rw [hme, hy])] at ho6; exact ho6
      · exact hB5.grown hg6 hB5.size fun g hg => (ho5.lt g hg).1
    -- a blank in its place
    have blk : mendC xs k x = blankC x.A → ldS T_api_Attr.rep ((⟨w2.heap.size, 0, none⟩ : Addr).add 2) w4 fun t55 => c_phosphorref13_blank t55 w4 fun t56 w9 => ixK r (k : Int) 5 fun t57 => stK t57 (T_api_Cell.rep.cells t56) w9 fun w10 => I (IntKind.i64.wrap ((k : Int) + 1), ()) w10 := fun hy =>
      ldS_of (x := x.A) (cell_a hb4.cells) (rblank_spec fun w9 hB9 hs9 => wr0 w9 (blankC x.A) _ (ho4.ext hB9) (hB04.trans (hB9.mono hB04.size)) hy rfl)
    have kind4 : w4.cell? ((⟨w2.heap.size, 0, none⟩ : Addr).add 1) = some (.int .i64 x.Kind) := hb4.cells 1 _ rfl
    refine joinP_of fun J hJ => ?_
    have out : (x.Kind < 0 ∨ x.Kind > 2) → J (true, ()) w4 := fun e => hJ _ _ (wr w4 { x with Kind := 0 } 1 _ ho4 hB04 (by rw [mendC, if_pos (by omega)]) (by simp) rfl)
    have inn : ¬ (x.Kind < 0 ∨ x.Kind > 2) → J (false, ()) w4 := fun e => hJ _ _ (by
      dsimp only [cond_false]
      have hk3 : ¬ (x.Kind ≠ 0 ∧ x.Kind ≠ 1 ∧ x.Kind ≠ 2) := by omega
      refine joinP_of fun J3 hJ3 => ?_
      have b3 : x.Kind = 1 → isB xs ((k : Int) + 1) 2 = false → J3 (true, ()) w4 := fun e1 e2 => hJ3 _ _ (blk (by rw [mendC, if_neg hk3, if_pos (by rw [f1 e1, e2])]))
      have g3 : (x.Kind = 1 → isB xs ((k : Int) + 1) 2 = true) → J3 (false, ()) w4 := fun e1 => hJ3 _ _ (by
        dsimp only [cond_false]
        refine joinP_of fun J4 hJ4 => ?_
        have b4 : x.Kind = 2 → isB xs ((k : Int) - 1) 1 = false → J4 (true, ()) w4 := fun e1 e2 => hJ4 _ _ (blk (by rw [mendC, if_neg hk3, if_pos (by rw [f2 e1, e2])]))
        have g4 : (x.Kind = 2 → isB xs ((k : Int) - 1) 1 = true) → J4 (false, ()) w4 := fun e2 => hJ4 _ _ (by
          dsimp only [cond_false]
          have hf : ¬ fitsB xs k = false := by
            by_cases h1 : x.Kind = 1
            · rw [f1 h1, e1 h1]; decide
            · by_cases h2 : x.Kind = 2
              · rw [f2 h2, e2 h2]; decide
              · rw [f0 (by omega)]; decide
          refine ldI_of kind4 ?_
          refine cond_of (fun h2 => ?_) (fun h2 => ?_)
          · have h2 := eq_of_beq h2
            exact wr w4 { x with R := 0 } 0 _ ho4 hB04 (by rw [mendC, if_neg hk3, if_neg hf, if_pos h2]) (by simp) rfl
          · have h2 := beq_eq_false_iff_ne.1 h2
            have hy : mendC xs k x = x := by rw [mendC, if_neg hk3, if_neg hf, if_neg h2]
            refine fin _ ?_ hB04
            rw [← mix_same hml hkl (by rw [hme, hx, hy])]
            exact ho4)
        refine ldI_of kind4 ?_
        refine cond_of (fun h2 => ?_) (fun h2 => ?_)
        · have h2 := eq_of_beq h2
          exact ahead_ask hrd4 hkl hm (fun hh => g4 fun _ => hh) (fun hh => b4 h2 hh)
        · have h2 := beq_eq_false_iff_ne.1 h2
          exact g4 fun h => absurd h h2)
      refine ldI_of kind4 ?_
      refine cond_of (fun h1 => ?_) (fun h1 => ?_)
      · have h1 := eq_of_beq h1
        exact next_ask hrd4 hkl hm (fun hh => g3 fun _ => hh) (fun hh => b3 h1 hh)
      · have h1 := beq_eq_false_iff_ne.1 h1
        exact g3 fun h => absurd h h1)
    refine ldI_of kind4 ?_
    refine cond_of (fun h0 => ?_) (fun h0 => ?_)
    · exact out (.inl (of_decide_eq_true h0))
    · have h0 := of_decide_eq_false h0
      refine ldI_of kind4 ?_
      by_cases h2 : x.Kind > 2
      · rw [decide_eq_true h2]; exact out (.inr h2)
      · rw [decide_eq_false h2]; exact inn (by omega)
  · have hge := of_decide_eq_false hge
    rw [h.n] at hge
    have : k = xs.length := by omega
    subst this
    rw [mix_all hml] at ho
    exact hK r w2 ho hB

/-! ### Same -/
def sameC (x y : Cell) : Bool := (x.R == y.R) && ((x.Kind == y.Kind) && (((x.A.Fg == y.A.Fg) && ((x.A.Bg == y.A.Bg) && ((x.A.Flags == y.A.Flags) && true))) && true))
theorem sameC_iff {x y : Cell} : sameC x y = true ↔ x = y := by
  obtain ⟨r, k, f, b, g⟩ := x
  obtain ⟨r', k', f', b', g'⟩ := y
  simp only [sameC, Bool.and_true, Bool.and_eq_true, beq_iff_eq, T_api_Cell.mk.injEq, T_api_Attr.mk.injEq]

theorem Same_spec {a b : Slc} {xs ys : List Cell} {w : World} {K : Bool → World → Prop} (ha : Rd cellE w a xs) (hb : Rd cellE w b ys)
    (hK : ∀ r w', (r = true ↔ xs = ys) → Below w.heap.size w w' → w'.heap.size = w.heap.size → K r w') : c_phosphorref13_Same a b w K := by
  have hm := rd_maxLen ha
  refine call_phosphorref13_Same _ _ ?_
  unfold sh_phosphorref13_Same
  refine cond_of (fun h => ?_) (fun h => ?_)
  · have h : xs.length ≠ ys.length := by
      rw [ha.n, hb.n] at h
      have h := bne_iff_ne.1 h
      omega
    exact hK _ _ ⟨fun e => (by cases e), fun e => absurd (by rw [e]) h⟩ (Below.refl _ _) rfl
  · have h : xs.length = ys.length := by
      rw [ha.n, hb.n] at h
      have h := bne_eq_false_iff_eq.1 h
      omega
    refine loopP_rule (fun (s : Int × Unit) w2 => ∃ k : Nat, s.1 = k ∧ k ≤ xs.length ∧ (∀ i : Nat, i < k → xs[i]? = ys[i]?) ∧ Below w.heap.size w w2 ∧ w2.heap.size = w.heap.size)
      (fun s => xs.length - s.1.toNat) ⟨0, rfl, by omega, fun i hi => by omega, Below.refl _ _, rfl⟩ ?_
    rintro ⟨i, _⟩ w2 ⟨k, rfl, hk, ho, hB, hsz⟩ I hI
    dsimp only at *
    refine cond_of (fun hlt => ?_) (fun hge => ?_)
    · have hlt := of_decide_eq_true hlt
      rw [ha.n] at hlt
      have hkl : k < xs.length := by omega
      obtain ⟨x, hx, hxs⟩ := get_of hkl
      obtain ⟨y, hy, hys⟩ := get_of (xs := ys) (k := k) (by omega)
      refine (ha.ext hB).drew.ix rfl (by omega) (by omega) fun hc => ?_
      rw [hxs] at hc
      refine ldS_of (x := x) hc ?_
      refine (hb.ext hB).drew.ix rfl (by omega) (by omega) fun hc => ?_
      rw [hys] at hc
      refine ldS_of (x := y) hc ?_
      change cond (!(sameC x y)) _ _
      refine cond_of (fun e => ?_) (fun e => ?_)
      · have e : ¬ x = y := fun e' => by rw [sameC_iff.2 e'] at e; cases e
        refine hK _ _ ⟨fun e => (by cases e), fun e' => ?_⟩ hB.drew hsz
        subst e'
        rw [hx] at hy
        exact absurd (Option.some.inj hy) e
      · have e : x = y := sameC_iff.1 (by cases hq : sameC x y with
          | true => rfl
          | false => rw [hq] at e; cases e)
        rw [wrap64_id (by omega)]
        refine hI _ _ ⟨k + 1, by simp, by omega, fun i hi => ?_, hB.drew, hsz⟩ (by simp; omega)
        rcases Nat.lt_or_ge i k with h' | h'
        · exact ho i h'
        · have : i = k := by omega
          subst this
          rw [hx, hy, e]
    · have hge := of_decide_eq_false hge
      rw [ha.n] at hge
      refine hK _ _ ⟨fun _ => ?_, fun _ => rfl⟩ hB hsz
      refine List.ext_getElem? fun i => ?_
      rcases Nat.lt_or_ge i k with h' | h'
      · exact ho i h'
      · rw [List.getElem?_eq_none (by omega), List.getElem?_eq_none (by omega)]

end Go.Proofs.YtgejghejnibocaaDoor
