/- The laws of grids, walked: GridScrolls, GridShrinks. -/
import Derived.Test.YtgejghejnibocaaDoorH1
namespace Go.Proofs.YtgejghejnibocaaDoor
open Go.Vc Go.RowKit

/-- A screen whose lines have a character each. -/
def rowsC (R cols : Nat) (c : Nat → Nat) : List (List Cell) := (List.range R).map fun i => rowN cols (c i) (65 + (i : Int))
theorem rowsC_length (R cols : Nat) (c : Nat → Nat) : (rowsC R cols c).length = R := by simp [rowsC]
theorem rowsC_get {R cols i : Nat} {c : Nat → Nat} (h : i < R) : (rowsC R cols c)[i]? = some (rowN cols (c i) (65 + (i : Int))) := by
  unfold rowsC
  rw [List.getElem?_map, List.getElem?_range h]
  rfl
theorem rowsC_mem {R cols : Nat} {c : Nat → Nat} {xs : List Cell} (h : xs ∈ rowsC R cols c) : xs.length = cols ∧ Plain xs := by
  obtain ⟨i, _, rfl⟩ := List.mem_map.1 h
  exact ⟨rowN_length _ _ _, rowN_plain _ _ _⟩
theorem rowsC_res {R cols : Nat} {c : Nat → Nat} (h : cols ≤ 1000) : (rowsC R cols c).map (resL · (cols : Int)) = rowsC R cols c := by
  unfold rowsC
  rw [List.map_map]
  refine List.map_congr_left fun i _ => ?_
  have := resL_same (rowN_plain cols (c i) (65 + (i : Int))) (by rw [rowN_length]; exact h)
  rwa [rowN_length] at this
def gsC (R cols most : Nat) (c : Nat → Nat) : GS := ⟨R, cols, most, rowsC R cols c, [], 0⟩

theorem chr65 {i : Nat} (h : i < 1000) : IntKind.i32.wrap (IntKind.i64.wrap ((i : Int) + 65)) = 65 + (i : Int) ∧ IntKind.i32.wrap (IntKind.i64.wrap (65 + (i : Int))) = 65 + (i : Int) := by
  rw [wrap64_id (x := (i : Int) + 65) (by omega), wrap64_id (x := 65 + (i : Int)) (by omega), Int.add_comm (i : Int) 65]
  exact ⟨IntWalk.i32_in _ (by omega), IntWalk.i32_in _ (by omega)⟩

theorem GridScrolls_law {rows top past n : Int} {w : World} {K : Bool → World → Prop} (hK : ∀ w', Below w.heap.size w w' → K true w') : c_phosphorlaw16_GridScrolls rows top past n w K := by
  refine call_phosphorlaw16_GridScrolls _ _ _ _ ?_
  unfold sh_phosphorlaw16_GridScrolls
  refine known16 fun w1 hB1 => ?_
  refine cond_f rfl ?_
  refine joinP_of fun J1 hJ1 => ?_
  refine cond_of (fun _ => hK _ hB1) (fun c1 => cond_of (fun _ => hK _ hB1) (fun c2 => cond_of (fun _ => hK _ hB1) (fun c3 => cond_of (fun _ => hK _ hB1) (fun c4 => cond_of (fun _ => hK _ hB1) (fun c5 => cond_of (fun _ => hK _ hB1) (fun c6 => cond_of (fun _ => hK _ hB1) (fun c7 => ?_)))))))
  have c1 := of_decide_eq_false c1
  have c2 := of_decide_eq_false c2
  have c3 := of_decide_eq_false c3
  have c4 := of_decide_eq_false c4
  have c5 := of_decide_eq_false c5
  have c6 := of_decide_eq_false c6
  have c7 := of_decide_eq_false c7
  obtain ⟨R, rfl⟩ : ∃ R : Nat, rows = R := ⟨rows.toNat, by omega⟩
  refine hJ1 _ _ ?_
  clear hJ1
  refine gNew_spec (fun hb => ?_) (fun _ f w2 h2 hB2 => ?_)
  · unfold badGrid at hb; omega
  refine joinP_of fun J hJ => ?_
  refine cond_f rfl (cond_f rfl (hJ _ _ ?_))
  clear hJ
  have hs1 := hB1.size
  have hs2 := hB2.size
  have hB02 : Below w.heap.size w w2 := hB1.trans (hB2.mono hs1)
  have hbl : (List.replicate R (newL ((2 : Nat) : Int) a0)).length = R := by simp
  have hrl : (rowsC R 2 fun _ => 0).length = (List.replicate R (newL ((2 : Nat) : Int) a0)).length := by rw [hbl, rowsC_length]
  refine loopP_rule (fun (s : Int × Unit) w3 => ∃ (k : Nat), s.1 = k ∧ k ≤ R ∧ GridM w3 w1.heap.size f ⟨R, 2, 5, mix (rowsC R 2 fun _ => 0) (List.replicate R (newL ((2 : Nat) : Int) a0)) k, [], 0⟩ ∧ Below w.heap.size w w3 ∧ w1.heap.size ≤ w3.heap.size) (fun s => R - s.1.toNat)
    ⟨0, rfl, by omega, by rw [mix_zero]; exact h2, hB02, hs2⟩ ?_
  rintro ⟨i, _⟩ w3 ⟨k, rfl, hk, h3, hB3, hs3⟩ I hI
  dsimp only at *
  refine cond_of (fun hlt => ?_) (fun hge => ?_)
  · have hlt := of_decide_eq_true hlt
    rw [(chr65 (by omega : k < 1000)).1]
    refine setChr h3 rfl ⟨show 1 ≤ 2 by decide, show 2 ≤ 1000 by decide⟩ (by decide) (by decide) ⟨by omega, hlt⟩ (by show (mix _ _ k).length = R; rw [mix_length hrl, hbl]) hs3 fun w4 h4 hc4 => ?_
    rw [wrap64_id (by omega)]
    refine hI _ _ ⟨k + 1, by simp, by omega, ?_, grid_below h3 hB3 hs1 hs3 hc4, Nat.le_trans hs3 hc4.size⟩ (by simp; omega)
    rw [← mix_set hrl (by omega) (rowsC_get (by omega))]
    exact h4
  · have hge := of_decide_eq_false hge
    have : k = (List.replicate R (newL ((2 : Nat) : Int) a0)).length := by omega
    subst this
    rw [mix_all hrl] at h3
    clear hI I
    have good : ¬ scrollBad R top past n := by unfold scrollBad; omega
    have good' : ¬ scrollBad R top past (0 - n) := by unfold scrollBad; omega
    refine gScroll_spec h3 (rowsC_length _ _ _) (by show R ≤ 1000; omega) (by show (5 : Nat) ≤ 100000; decide) hs3 (by omega) fun f4 w4 h4 hf4 hc4 => ?_
    have hB4 := grid_below h3 hB3 hs1 hs3 hc4
    have hs4 : w1.heap.size ≤ w4.heap.size := Nat.le_trans hs3 hc4.size
    have e4 : scrollG ⟨R, 2, 5, rowsC R 2 fun _ => 0, [], 0⟩ top past n ⟨0, 0, 0⟩ = ⟨R, 2, 5, scrollL 2 (rowsC R 2 fun _ => 0) top past n ⟨0, 0, 0⟩, [], 0⟩ := by
      unfold scrollG
      rw [if_neg good, if_neg (by omega)]
    rw [e4] at h4
    have hl4 := scrollL_length (cols := 2) (a := ⟨0, 0, 0⟩) (rowsC_length R 2 fun _ => 0) good
    rw [rowsC_length] at hl4
    rw [← hf4.g, wrap64_id (x := 0 - n) (by omega)]
    refine gScroll_spec h4 hl4 (by show R ≤ 1000; omega) (by show (5 : Nat) ≤ 100000; decide) hs4 (by omega) fun f5 w5 h5 hf5 hc5 => ?_
    have hB5 := grid_below h4 hB4 hs1 hs4 hc5
    have hs5 : w1.heap.size ≤ w5.heap.size := Nat.le_trans hs4 hc5.size
    have e5 : scrollG ⟨R, 2, 5, scrollL 2 (rowsC R 2 fun _ => 0) top past n ⟨0, 0, 0⟩, [], 0⟩ top past (0 - n) ⟨0, 0, 0⟩ = ⟨R, 2, 5, scrollL 2 (scrollL 2 (rowsC R 2 fun _ => 0) top past n ⟨0, 0, 0⟩) top past (0 - n) ⟨0, 0, 0⟩, [], 0⟩ := by
      unfold scrollG
      rw [if_neg good', if_neg (by omega)]
    rw [e5] at h5
    have hl5 := scrollL_length (cols := 2) (a := ⟨0, 0, 0⟩) (L := scrollL 2 (rowsC R 2 fun _ => 0) top past n ⟨0, 0, 0⟩) hl4 good'
    rw [hl4] at hl5
    have key : ∀ i : Nat, i < R → (scrollL 2 (scrollL 2 (rowsC R 2 fun _ => 0) top past n ⟨0, 0, 0⟩) top past (0 - n) ⟨0, 0, 0⟩)[i]? = some (if (i : Int) < top ∨ (i : Int) ≥ past ∨ (i : Int) - top ≥ n then rowN 2 0 (65 + (i : Int)) else newL ((2 : Nat) : Int) a0) := by
      intro i hi
      have hm : (scrollM top past n : Int) = min n (past - top) := by unfold scrollM; rw [if_neg (by omega)]; omega
      have hm' : scrollM top past (0 - n) = scrollM top past n := by unfold scrollM; rw [if_pos (by omega), if_neg (by omega)]; congr 1; omega
      rw [scrollL_get hl4 good', scrollL_get (rowsC_length R 2 fun _ => 0) good, hm', if_neg (by omega : ¬ (0 - n > 0))]
      obtain ⟨m, hmm⟩ : ∃ m, scrollM top past n = m := ⟨_, rfl⟩
      rw [hmm] at hm hm' ⊢
      by_cases h1 : (i : Int) < top ∨ (i : Int) ≥ past
      · rw [if_pos h1, if_pos h1, if_pos (by omega), rowsC_get hi]
      · rw [if_neg h1]
        by_cases h2 : (i : Int) < top + m
        · rw [if_pos h2, if_neg (by omega)]
          rfl
        · rw [if_neg h2, scrollL_get (rowsC_length R 2 fun _ => 0) good, hmm, if_neg (by omega), if_pos (by omega), if_pos (by omega), if_pos (by omega)]
          rw [show i - m + m = i by omega, rowsC_get hi]
    have r1 : scrollR R top past n = 0 := by rw [scrollR, if_pos (.inr (.inr (by omega)))]
    have r2 : scrollR R top past (0 - n) = 0 := by rw [scrollR, if_pos (.inr (.inr (by omega)))]
    show joinP _ _
    simp only [r1, r2]
    generalize scrollL 2 (scrollL 2 (rowsC R 2 fun _ => 0) top past n ⟨0, 0, 0⟩) top past (0 - n) ⟨0, 0, 0⟩ = L at *
    rw [← hf5.g]
    refine joinP_of fun J hJ => ?_
    refine cond_f rfl (cond_f rfl (gTop_spec h5 (cond_f rfl (gBack_spec h5 (cond_f rfl (hJ _ _ ?_))))))
    clear hJ
    try dsimp only
    have hw : ∀ xs ∈ L, xs.length ≤ 1000000 := fun xs hx => by
      obtain ⟨i, hi⟩ := List.getElem?_of_mem hx
      have hil := (List.getElem?_eq_some_iff.1 hi).1
      rw [key i (by omega)] at hi
      rw [← Option.some.inj hi]
      split
      · rw [rowN_length]; decide
      · rw [newL_eq (by decide)]; simp
    refine loopP_rule (fun (s : Int × Unit) w6 => ∃ (k : Nat), s.1 = k ∧ k ≤ R ∧ GridM w6 w1.heap.size f5 ⟨R, 2, 5, L, [], 0⟩ ∧ Below w.heap.size w w6) (fun s => R - s.1.toNat) ⟨0, rfl, by omega, h5, hB5⟩ ?_
    rintro ⟨i, _⟩ w6 ⟨k, rfl, hk6, h6, hB6⟩ I hI
    dsimp only at *
    refine cond_of (fun hlt => ?_) (fun hge => hK _ hB6)
    have hlt := of_decide_eq_true hlt
    refine gLine_spec h6 hl5 hw (fun s xs w7 h0 hx ho hB7 => ?_) (fun hn => ?_)
    · have hx : L[k]? = some xs := hx
      rw [key k (by omega)] at hx
      have hx := Option.some.inj hx
      have hB07 : Below w.heap.size w w7 := hB6.trans (hB7.mono hB6.size)
      have next : I (IntKind.i64.wrap ((k : Int) + 1), ()) w7 := by
        rw [wrap64_id (by omega)]
        exact hI _ _ ⟨k + 1, by simp, by omega, h6.ext hB7, hB07⟩ (by simp; omega)
      rw [(chr65 (by omega : k < 1000)).1]
      refine joinP_of fun J hJ => ?_
      have main : ∀ b : Bool, (b = true ↔ ((k : Int) < top ∨ (k : Int) ≥ past ∨ (k : Int) - top ≥ n)) → J (b, ()) w7 := fun b hb => hJ _ _ (by
        dsimp only
        have hxl : xs.length = 2 := by
          rw [← hx]
          split
          · rw [rowN_length]
          · rw [newL_eq (by decide)]; simp
        refine cond_f (by rw [ho.rd.n, hxl]; rfl) ?_
        refine ho.rd.ix rfl (by decide) (by rw [hxl]; decide) fun hcell => ?_
        cases b with
        | true =>
          rw [if_pos (hb.1 rfl)] at hx
          subst hx
          refine ldI_of (x := 65 + (k : Int)) (hcell 0 _ rfl) ?_
          exact cond_f (by simp) (cond_f rfl next)
        | false =>
          rw [if_neg (fun hh => by have := hb.2 hh; cases this)] at hx
          subst hx
          refine ldI_of (x := 0) (hcell 0 _ rfl) ?_
          refine cond_f ?_ (cond_t rfl ?_)
          · have : ((0 : Int) == 65 + (k : Int)) = false := by
              apply beq_eq_false_iff_ne.2
              omega
            rw [this]
            rfl
          · refine ho.rd.ix rfl (by decide) (by rw [hxl]; decide) fun hcell => ?_
            refine ldI_of (x := 0) (hcell 0 _ rfl) ?_
            exact cond_f rfl next)
      refine cond_of (fun h => main true (by simp [of_decide_eq_true h])) (fun h => cond_of (fun h' => main true (by simp [of_decide_eq_true h'])) (fun h' => main _ ?_))
      have h := of_decide_eq_false h
      have h' := of_decide_eq_false h'
      rw [wrap64_id (by omega)]
      simp
      omega
    · exact absurd (show 0 ≤ (k : Int) ∧ (k : Int) < (R : Int) by omega) hn

theorem GridShrinks_law {rows fewer row : Int} {w : World} {K : Bool → World → Prop} (hK : ∀ w', Below w.heap.size w w' → K true w') : c_phosphorlaw16_GridShrinks rows fewer row w K := by
  refine call_phosphorlaw16_GridShrinks _ _ _ ?_
  unfold sh_phosphorlaw16_GridShrinks
  refine known16 fun w1 hB1 => ?_
  refine cond_f rfl ?_
  refine joinP_of fun J1 hJ1 => ?_
  refine cond_of (fun _ => hK _ hB1) (fun c1 => cond_of (fun _ => hK _ hB1) (fun c2 => cond_of (fun _ => hK _ hB1) (fun c3 => cond_of (fun _ => hK _ hB1) (fun c4 => cond_of (fun _ => hK _ hB1) (fun c5 => cond_of (fun _ => hK _ hB1) (fun c6 => ?_))))))
  have c1 := of_decide_eq_false c1
  have c2 := of_decide_eq_false c2
  have c3 := of_decide_eq_false c3
  have c4 := of_decide_eq_false c4
  have c5 := of_decide_eq_false c5
  have c6 := of_decide_eq_false c6
  obtain ⟨R, rfl⟩ : ∃ R : Nat, rows = R := ⟨rows.toNat, by omega⟩
  obtain ⟨fw, rfl⟩ : ∃ R : Nat, fewer = R := ⟨fewer.toNat, by omega⟩
  obtain ⟨row, rfl⟩ : ∃ R : Nat, row = R := ⟨row.toNat, by omega⟩
  refine hJ1 _ _ ?_
  clear hJ1
  refine gNew_spec (fun hb => ?_) (fun _ f w2 h2 hB2 => ?_)
  · unfold badGrid at hb; omega
  refine joinP_of fun J hJ => ?_
  refine cond_f rfl (cond_f rfl (hJ _ _ ?_))
  clear hJ
  have hs1 := hB1.size
  have hs2 := hB2.size
  have hB02 : Below w.heap.size w w2 := hB1.trans (hB2.mono hs1)
  have hbl : (List.replicate R (newL ((2 : Nat) : Int) a0)).length = R := by simp
  have hrl : (rowsC R 2 fun _ => 0).length = (List.replicate R (newL ((2 : Nat) : Int) a0)).length := by rw [hbl, rowsC_length]
  refine loopP_rule (fun (s : Int × Unit) w3 => ∃ (k : Nat), s.1 = k ∧ k ≤ R ∧ GridM w3 w1.heap.size f ⟨R, 2, 50, mix (rowsC R 2 fun _ => 0) (List.replicate R (newL ((2 : Nat) : Int) a0)) k, [], 0⟩ ∧ Below w.heap.size w w3 ∧ w1.heap.size ≤ w3.heap.size) (fun s => R - s.1.toNat)
    ⟨0, rfl, by omega, by rw [mix_zero]; exact h2, hB02, hs2⟩ ?_
  rintro ⟨i, _⟩ w3 ⟨k, rfl, hk, h3, hB3, hs3⟩ I hI
  dsimp only at *
  refine cond_of (fun hlt => ?_) (fun hge => ?_)
  · have hlt := of_decide_eq_true hlt
    rw [(chr65 (by omega : k < 1000)).2]
    refine setChr h3 rfl ⟨show 1 ≤ 2 by decide, show 2 ≤ 1000 by decide⟩ (by decide) (by decide) ⟨by omega, hlt⟩ (by show (mix _ _ k).length = R; rw [mix_length hrl, hbl]) hs3 fun w4 h4 hc4 => ?_
    rw [wrap64_id (by omega)]
    refine hI _ _ ⟨k + 1, by simp, by omega, ?_, grid_below h3 hB3 hs1 hs3 hc4, Nat.le_trans hs3 hc4.size⟩ (by simp; omega)
    rw [← mix_set hrl (by omega) (rowsC_get (by omega))]
    exact h4
  · have hge := of_decide_eq_false hge
    have : k = (List.replicate R (newL ((2 : Nat) : Int) a0)).length := by omega
    subst this
    rw [mix_all hrl] at h3
    clear hI I
    refine gResize_spec h3 (rowsC_length _ _ _) (by show R ≤ 1000; omega) (fun xs hx => by rw [(rowsC_mem hx).1]; decide) (by show (50 : Nat) ≤ 100000; decide) hs3 (fun hb => ?_) (fun f4 w4 _ h4 hf4 hc4 => ?_)
    · exfalso
      unfold badResize at hb
      have hb : ¬ (1 ≤ (fw : Int) ∧ (fw : Int) ≤ 1000) ∨ ¬ (1 ≤ (2 : Int) ∧ (2 : Int) ≤ 1000) ∨ ¬ (0 ≤ (row : Int) ∧ (row : Int) < (R : Int)) := hb
      omega
    have hB4 := grid_below h3 hB3 hs1 hs3 hc4
    rw [show ((2 : Int)).toNat = 2 from rfl, Int.toNat_natCast] at h4
    -- what is there
    have key : ∃ g : Nat, (g : Int) = (if (row : Int) ≥ fw then (row : Int) + 1 - fw else 0) ∧ (resizeG ⟨R, 2, 50, rowsC R 2 fun _ => 0, [], 0⟩ fw 2 row).top = g ∧ (resizeG ⟨R, 2, 50, rowsC R 2 fun _ => 0, [], 0⟩ fw 2 row).old.length = g ∧
        (resizeG ⟨R, 2, 50, rowsC R 2 fun _ => 0, [], 0⟩ fw 2 row).L.length = fw ∧ (resizeG ⟨R, 2, 50, rowsC R 2 fun _ => 0, [], 0⟩ fw 2 row).L[row - g]? = some (rowN 2 0 (65 + (row : Int))) ∧ (∀ xs ∈ (resizeG ⟨R, 2, 50, rowsC R 2 fun _ => 0, [], 0⟩ fw 2 row).L, xs.length ≤ 1000000) := by
      have e1 : resize1 ⟨R, 2, 50, rowsC R 2 fun _ => 0, [], 0⟩ 2 = ⟨R, 2, 50, rowsC R 2 fun _ => 0, [], 0⟩ := by
        unfold resize1
        dsimp only
        rw [show ((2 : Nat) : Int) = ((2 : Nat) : Int) from rfl, rowsC_res (by decide)]
      unfold resizeG resize2
      rw [e1]
      dsimp only
      rw [show fw - R = 0 by omega]
      simp only [List.replicate_zero, List.append_nil]
      by_cases hr : (row : Int) ≥ fw
      · have good : ¬ scrollBad R 0 R ((row : Int) + 1 - fw) := by unfold scrollBad; omega
        have hm : scrollM 0 R ((row : Int) + 1 - fw) = row + 1 - fw := by unfold scrollM; rw [if_neg (by omega)]; omega
        rw [if_pos hr, if_pos hr]
        unfold scrollG
        dsimp only
        rw [if_neg good, if_pos ⟨by omega, rfl⟩, hm]
        have hl := scrollL_length (cols := 2) (a := ⟨0, 0, 0⟩) (rowsC_length R 2 fun _ => 0) good
        rw [rowsC_length] at hl
        refine ⟨row + 1 - fw, by omega, ?_, ?_, ?_, ?_, ?_⟩
        · show IntKind.i64.wrap (0 + ((row + 1 - fw : Nat) : Int)) = _
          rw [wrap64_id (by omega)]
          omega
        · rw [pushAll_room _ _ _ (by simp [rowsC_length]; omega)]
          simp [rowsC_length]
          omega
        · rw [List.length_take, hl]
          omega
        · rw [List.getElem?_take_of_lt (by omega), scrollL_get (rowsC_length R 2 fun _ => 0) good, hm, if_neg (by omega), if_pos (by omega), if_pos (by omega), show row - (row + 1 - fw) + (row + 1 - fw) = row by omega, rowsC_get (by omega)]
        · intro xs hx
          have hx := List.mem_of_mem_take hx
          obtain ⟨i, hi⟩ := List.getElem?_of_mem hx
          have hil : i < R := Nat.lt_of_lt_of_eq (List.getElem?_eq_some_iff.1 hi).1 hl
          rw [scrollL_get (rowsC_length R 2 fun _ => 0) good, hm, if_neg (by omega), if_pos (by omega)] at hi
          split at hi
          · rw [(rowsC_mem (List.mem_of_getElem? hi)).1]; decide
          · rw [← Option.some.inj hi]
            show (newL ((2 : Nat) : Int) a0).length ≤ _
            rw [newL_eq (by decide)]; simp
      · rw [if_neg hr, if_neg hr]
        refine ⟨0, rfl, rfl, rfl, ?_, ?_, ?_⟩
        · rw [List.length_take, rowsC_length]; omega
        · rw [Nat.sub_zero, List.getElem?_take_of_lt (by omega), rowsC_get (by omega)]
        · intro xs hx
          rw [(rowsC_mem (List.mem_of_mem_take hx)).1]; decide
    obtain ⟨g, hg, htop, hold, hLl, hLg, hLw⟩ := key
    have hrows : (resizeG ⟨R, 2, 50, rowsC R 2 fun _ => 0, [], 0⟩ fw 2 row).rows = fw := rfl
    generalize resizeG ⟨R, 2, 50, rowsC R 2 fun _ => 0, [], 0⟩ fw 2 row = S4 at *
    refine joinP_of fun J hJ => ?_
    rw [← hf4.g] at hJ
    have main : J ((g : Int), ()) w4 := hJ _ _ (by
      have hat : (if (row : Int) ≥ (fw : Int) then (fw : Int) - 1 else (row : Int)) = ((row - g : Nat) : Int) := by split at hg <;> split <;> omega
      have hgr : g ≤ row ∧ row - g < fw := by split at hg <;> omega
      rw [hat]
      dsimp only
      refine gLine_spec h4 (hLl.trans hrows.symm) hLw (fun s xs w5 h0 hx ho hB5 => ?_) (fun hn => absurd ⟨by omega, by rw [hrows]; omega⟩ hn)
      rw [Int.toNat_natCast, hLg] at hx
      obtain rfl := Option.some.inj hx
      have hB05 : Below w.heap.size w w5 := hB4.trans (hB5.mono hB4.size)
      have h5 := h4.ext hB5
      refine cond_t rfl (cond_t ?_ (cond_t rfl ?_))
      · rw [wrap64_id (by omega)]
        simp
        omega
      refine ho.rd.ix rfl (by decide) (by rw [rowN_length]; decide) fun hcell => ?_
      refine ldI_of (x := 65 + (row : Int)) (hcell 0 _ rfl) ?_
      rw [(chr65 (by omega : row < 1000)).2]
      refine cond_t (by simp) (gTop_spec h5 (cond_t (by rw [htop]; simp) (gBack_spec h5 ?_)))
      rw [hold]
      have : (((g : Nat) : Int) == (g : Int)) = true := by simp
      rw [this]
      exact hK _ hB05)
    refine cond_of (fun hr => ?_) (fun hr => ?_)
    · have hr := of_decide_eq_true hr
      rw [if_pos hr] at hg
      rw [wrap64_id (x := (row : Int) + 1) (by omega), wrap64_id (by omega), ← hg]
      exact main
    · have hr := of_decide_eq_false hr
      rw [if_neg hr] at hg
      have : g = 0 := by omega
      subst this
      exact main

end Go.Proofs.YtgejghejnibocaaDoor
