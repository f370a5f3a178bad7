/- The laws of grids, walked: GridResizes. -/
import Derived.Test.YtgejghejnibocaaDoorH3
namespace Go.Proofs.YtgejghejnibocaaDoor
open Go.Vc Go.RowKit

theorem textB_plain {xs : List Cell} (h : Plain xs) : textB xs = xs.flatMap cellB := by rw [textB, plain_mend h]
theorem cellB_blanks (n : Nat) : (List.replicate n (blankC a0)).flatMap cellB = List.replicate n 32 := by
  induction n with
  | zero => rfl
  | succ n ih =>
    rw [List.replicate_succ, List.flatMap_cons, ih]
    rfl
theorem textS_pad {xs : List Cell} (h : Plain xs) (n : Nat) : textS (xs ++ List.replicate n (blankC a0)) = textS xs := by
  rw [textS, textS, textB_plain (plain_append h (plain_blanks _ _)), textB_plain h, List.flatMap_append, cellB_blanks, trimR_blanks]
theorem textS_blank (n : Nat) : textS (List.replicate n (blankC a0)) = ⟨#[]⟩ := by
  have := textS_pad (xs := []) (fun c hc => by cases hc) n
  rw [List.nil_append] at this
  rw [this]
  rfl
theorem rowN_pad {cols c : Nat} {r : Int} (h : c < cols) (d : Nat) : rowN cols c r ++ List.replicate d (blankC a0) = rowN (cols + d) c r := by
  unfold rowN
  rw [← List.replicate_append_replicate, List.set_append_left _ _ (by simpa using h)]
theorem rowN_take {cols c : Nat} {r : Int} (h : c < cols) (d : Nat) : (rowN (cols + d) c r).take cols = rowN cols c r := by
  rw [← rowN_pad h, List.take_append_of_le_length (by rw [rowN_length]; exact Nat.le_refl _), List.take_of_length_le (by rw [rowN_length]; exact Nat.le_refl _)]

theorem rowsC_wide {R cols d : Nat} {c : Nat → Nat} (hc : ∀ i, c i < cols) (h : cols + d ≤ 1000) : (rowsC R cols c).map (resL · ((cols + d : Nat) : Int)) = rowsC R (cols + d) c := by
  unfold rowsC
  rw [List.map_map]
  refine List.map_congr_left fun i _ => ?_
  show resL (rowN cols (c i) _) ((cols + d : Nat) : Int) = _
  rw [resL_wide (rowN_plain _ _ _) (by rw [rowN_length]; omega) h, rowN_length, Nat.add_sub_cancel_left, rowN_pad (hc i)]
theorem rowsC_thin {R cols d : Nat} {c : Nat → Nat} (hc : ∀ i, c i < cols) (h : cols + d ≤ 1000) : (rowsC R (cols + d) c).map (resL · (cols : Int)) = rowsC R cols c := by
  unfold rowsC
  rw [List.map_map]
  refine List.map_congr_left fun i _ => ?_
  show resL (rowN (cols + d) (c i) _) (cols : Int) = _
  rw [resL_thin (rowN_plain _ _ _) (by rw [rowN_length]; omega) (by omega), rowN_take (hc i)]
theorem texts_wide (R cols d : Nat) (c : Nat → Nat) (hc : ∀ i, c i < cols) : (rowsC R (cols + d) c).map textS = (rowsC R cols c).map textS := by
  unfold rowsC
  rw [List.map_map, List.map_map]
  refine List.map_congr_left fun i _ => ?_
  show textS (rowN (cols + d) (c i) _) = textS (rowN cols (c i) _)
  rw [← rowN_pad (hc i), textS_pad (rowN_plain _ _ _)]

theorem GridResizes_law {rows cols more wider row : Int} {w : World} {K : Bool → World → Prop} (hK : ∀ w', Below w.heap.size w w' → K true w') : c_phosphorlaw16_GridResizes rows cols more wider row w K := by
  refine call_phosphorlaw16_GridResizes _ _ _ _ _ ?_
  unfold sh_phosphorlaw16_GridResizes
  refine known16 fun w1 hB1 => ?_
  refine cond_f rfl ?_
  refine joinP_of fun J1 hJ1 => ?_
  refine cond_of (fun _ => hK _ hB1) (fun c1 => cond_of (fun _ => hK _ hB1) (fun c2 => cond_of (fun _ => hK _ hB1) (fun c3 => cond_of (fun _ => hK _ hB1) (fun c4 => cond_of (fun _ => hK _ hB1) (fun c5 => cond_of (fun _ => hK _ hB1) (fun c6 => cond_of (fun _ => hK _ hB1) (fun c7 => cond_of (fun _ => hK _ hB1) (fun c8 => cond_of (fun _ => hK _ hB1) (fun c9 => cond_of (fun _ => hK _ hB1) (fun c10 => ?_))))))))))
  have c1 := of_decide_eq_false c1
  have c2 := of_decide_eq_false c2
  have c3 := of_decide_eq_false c3
  have c4 := of_decide_eq_false c4
  have c5 := of_decide_eq_false c5
  have c6 := of_decide_eq_false c6
  have c7 := of_decide_eq_false c7
  have c8 := of_decide_eq_false c8
  have c9 := of_decide_eq_false c9
  have c10 := of_decide_eq_false c10
  obtain ⟨R, rfl⟩ : ∃ R : Nat, rows = R := ⟨rows.toNat, by omega⟩
  obtain ⟨D, rfl⟩ : ∃ R : Nat, cols = R := ⟨cols.toNat, by omega⟩
  obtain ⟨m, rfl⟩ : ∃ R : Nat, more = R := ⟨more.toNat, by omega⟩
  obtain ⟨d, rfl⟩ : ∃ R : Nat, wider = R := ⟨wider.toNat, by omega⟩
  obtain ⟨row, rfl⟩ : ∃ R : Nat, row = R := ⟨row.toNat, by omega⟩
  refine hJ1 _ _ ?_
  clear hJ1
  refine gNew_spec (fun hb => ?_) (fun _ f w2 h2 hB2 => ?_)
  · unfold badGrid at hb; omega
  refine joinP_of fun J hJ => ?_
  refine cond_f rfl (cond_f rfl (hJ _ _ ?_))
  clear hJ
  have hs1 := hB1.size
  have hs2 := hB2.size
  have hB02 : Below w.heap.size w w2 := hB1.trans (hB2.mono hs1)
  have hbl : (List.replicate R (newL (D : Int) a0)).length = R := by simp
  have hrl : (rowsC R D fun i => i % D).length = (List.replicate R (newL (D : Int) a0)).length := by rw [hbl, rowsC_length]
  have hmod : ∀ i : Nat, i % D < D := fun i => Nat.mod_lt _ (by omega)
  refine loopP_rule (fun (s : Int × Unit) w3 => ∃ (k : Nat), s.1 = k ∧ k ≤ R ∧ GridM w3 w1.heap.size f ⟨R, D, 3, mix (rowsC R D fun i => i % D) (List.replicate R (newL (D : Int) a0)) k, [], 0⟩ ∧ Below w.heap.size w w3 ∧ w1.heap.size ≤ w3.heap.size) (fun s => R - s.1.toNat)
    ⟨0, rfl, by omega, by rw [mix_zero]; exact h2, hB02, hs2⟩ ?_
  rintro ⟨i, _⟩ w3 ⟨k, rfl, hk, h3, hB3, hs3⟩ I hI
  dsimp only at *
  refine cond_of (fun hlt => ?_) (fun hge => ?_)
  · have hlt := of_decide_eq_true hlt
    refine ⟨by omega, ?_⟩
    have hmk : ((k : Nat) : Int).tmod (D : Int) = ((k % D : Nat) : Int) := by
      rw [Int.tmod_eq_emod_of_nonneg (by omega), Int.natCast_emod]
    have hmk' := hmod k
    rw [(chr65 (by omega : k < 1000)).2, hmk]
    refine setChr h3.drew rfl ⟨by show 1 ≤ D; omega, by show D ≤ 1000; omega⟩ (by omega) (by omega) ⟨by omega, hlt⟩ (by show (mix _ _ k).length = R; rw [mix_length hrl, hbl]) hs3 fun w4 h4 hc4 => ?_
    rw [wrap64_id (by omega)]
    refine hI _ _ ⟨k + 1, by simp, by omega, ?_, grid_below h3.drew hB3.drew hs1 hs3 hc4, Nat.le_trans hs3 hc4.size⟩ (by simp; omega)
    rw [← mix_set hrl (by omega) (rowsC_get (by omega))]
    exact h4
  · have hge := of_decide_eq_false hge
    have : k = (List.replicate R (newL (D : Int) a0)).length := by omega
    subst this
    rw [mix_all hrl] at h3
    clear hI I
    refine gText_spec h3 (rowsC_length _ _ _) (by show R ≤ 1000; omega) (fun xs hx => by rw [(rowsC_mem hx).1]; omega) fun t1 w4 ht1 hB4 => ?_
    have h4 := h3.ext hB4
    have hs4 : w1.heap.size ≤ w4.heap.size := Nat.le_trans hs3 hB4.size
    have hB04 : Below w.heap.size w w4 := hB3.trans (hB4.mono hB3.size)
    rw [wrap64_id (x := (R : Int) + m) (by omega), wrap64_id (x := (D : Int) + d) (by omega)]
    refine gResize_spec h4 (rowsC_length _ _ _) (by show R ≤ 1000; omega) (fun xs hx => by rw [(rowsC_mem hx).1]; omega) (by show (3 : Nat) ≤ 100000; decide) hs4 (fun hb => ?_) (fun f5 w5 _ h5 hf5 hc5 => ?_)
    · exfalso
      unfold badResize at hb
      have hb : ¬ (1 ≤ (R : Int) + m ∧ (R : Int) + m ≤ 1000) ∨ ¬ (1 ≤ (D : Int) + d ∧ (D : Int) + d ≤ 1000) ∨ ¬ (0 ≤ (row : Int) ∧ (row : Int) < (R : Int)) := hb
      omega
    have hB5 := grid_below h4 hB04 hs1 hs4 hc5
    have hs5 : w1.heap.size ≤ w5.heap.size := Nat.le_trans hs4 hc5.size
    have e5 : resizeG ⟨R, D, 3, rowsC R D fun i => i % D, [], 0⟩ ((R : Int) + m).toNat ((D : Int) + d).toNat row = ⟨R + m, D + d, 3, rowsC R (D + d) (fun i => i % D) ++ List.replicate m (newL ((D + d : Nat) : Int) a0), [], 0⟩ := by
      rw [show ((R : Int) + m).toNat = R + m by omega, show ((D : Int) + d).toNat = D + d by omega]
      unfold resizeG resize2
      rw [if_neg (by omega)]
      unfold resize1
      dsimp only
      rw [rowsC_wide hmod (by omega), List.take_of_length_le (by rw [rowsC_length]; omega), Nat.add_sub_cancel_left]
      rfl
    rw [e5] at h5
    have hl5 : (rowsC R (D + d) (fun i => i % D) ++ List.replicate m (newL ((D + d : Nat) : Int) a0)).length = R + m := by rw [List.length_append, rowsC_length, List.length_replicate]
    have hw5 : ∀ xs ∈ rowsC R (D + d) (fun i => i % D) ++ List.replicate m (newL ((D + d : Nat) : Int) a0), xs.length ≤ 10000 := fun xs hx => by
      rcases List.mem_append.1 hx with h | h
      · rw [(rowsC_mem h).1]; omega
      · rw [List.eq_of_mem_replicate h, newL_eq (by omega)]; simp; omega
    have ht1' := ht1.chg hc5 (fun g hg hs => by
      have := (ht1.lt g hg).1
      have := (h3.below g hs).2
      omega)
    rw [← hf5.g]
    refine gText_spec h5 hl5 (by show R + m ≤ 1000; omega) hw5 fun t2 w6 ht2 hB6 => ?_
    have h6 := h5.ext hB6
    have hs6 : w1.heap.size ≤ w6.heap.size := Nat.le_trans hs5 hB6.size
    have hB06 : Below w.heap.size w w6 := hB5.trans (hB6.mono hB5.size)
    refine gResize_spec h6 hl5 (by show R + m ≤ 1000; omega) hw5 (by show (3 : Nat) ≤ 100000; decide) hs6 (fun hb => ?_) (fun f7 w7 _ h7 hf7 hc7 => ?_)
    · exfalso
      unfold badResize at hb
      have hb : ¬ (1 ≤ (R : Int) ∧ (R : Int) ≤ 1000) ∨ ¬ (1 ≤ (D : Int) ∧ (D : Int) ≤ 1000) ∨ ¬ (0 ≤ (row : Int) ∧ (row : Int) < ((R + m : Nat) : Int)) := hb
      omega
    have hB7 := grid_below h6 hB06 hs1 hs6 hc7
    have hs7 : w1.heap.size ≤ w7.heap.size := Nat.le_trans hs6 hc7.size
    have e7 : resizeG ⟨R + m, D + d, 3, rowsC R (D + d) (fun i => i % D) ++ List.replicate m (newL ((D + d : Nat) : Int) a0), [], 0⟩ (R : Int).toNat (D : Int).toNat row = ⟨R, D, 3, rowsC R D (fun i => i % D), [], 0⟩ := by
      rw [Int.toNat_natCast, Int.toNat_natCast]
      unfold resizeG resize2
      rw [if_neg (by omega)]
      unfold resize1
      dsimp only
      rw [List.map_append, rowsC_thin hmod (by omega), List.take_append_of_le_length (by rw [rowsC_length]; exact Nat.le_refl _), List.take_of_length_le (by rw [rowsC_length]; exact Nat.le_refl _), show R - (R + m) = 0 by omega]
      simp
    rw [e7] at h7
    have dis : ∀ {t : Slc} {L : List ByteArray} {b : Nat}, Own strE w6 b t L → (∀ g, t.blk = some g → ¬ gridS f5 g) → Own strE w7 b t L := fun ho hd => ho.chg hc7 hd
    have hold5 := hf5.old
    have ht1'' := dis (ht1'.ext hB6) fun g hg hs => by
      have h1 := ht1.lt g hg
      rcases hold5 g hs with e | e
      · have := (h3.below g e).2; omega
      · omega
    have ht2' := dis ht2 fun g hg hs => by
      have h1 := (ht2.lt g hg).1
      have := (h5.below g hs).2; omega
    rw [← hf7.g]
    refine gText_spec h7 (rowsC_length _ _ _) (by show R ≤ 1000; omega) (fun xs hx => by rw [(rowsC_mem hx).1]; omega) fun t3 w8 ht3 hB8 => ?_
    have h8 := h7.ext hB8
    have hB08 : Below w.heap.size w w8 := hB7.trans (hB8.mono hB7.size)
    have r1 := (ht1''.ext hB8).rd
    have r2 := (ht2'.ext hB8).rd
    have r3 := ht3.rd
    have e2 : List.map textS (rowsC R (D + d) (fun i => i % D) ++ List.replicate m (newL ((D + d : Nat) : Int) a0)) = (rowsC R D fun i => i % D).map textS ++ List.replicate m ⟨#[]⟩ := by
      rw [List.map_append, texts_wide _ _ _ _ hmod, List.map_replicate, newL_eq (by omega)]
      congr 2
      exact textS_blank _
    have r2 : Rd strE w8 t2 ((rowsC R D fun i => i % D).map textS ++ List.replicate m ⟨#[]⟩) := by rw [← e2]; exact r2
    have r1 : Rd strE w8 t1 ((rowsC R D fun i => i % D).map textS) := r1
    have r3 : Rd strE w8 t3 ((rowsC R D fun i => i % D).map textS) := r3
    have hM : ((rowsC R D fun i => i % D).map textS).length = R := by simp [rowsC_length]
    generalize (rowsC R D fun i => i % D).map textS = M at *
    refine joinP_of fun J hJ => ?_
    rw [if_neg (by omega), if_neg (by omega)]
    refine cond_f rfl (cond_f rfl (cond_f (by simp) (cond_f (by simp) ?_)))
    refine cond_f (by rw [r2.n, List.length_append, hM, List.length_replicate]; simp) ?_
    refine cond_f (by rw [r3.n, hM]; simp) ?_
    refine gBack_spec h8 (cond_f rfl (hJ _ _ ?_))
    clear hJ
    try dsimp only
    rw [r2.n, List.length_append, hM, List.length_replicate]
    refine loopP_rule (fun (s : Int × Unit) w9 => ∃ (k : Nat), s.1 = k ∧ k ≤ R + m ∧ Below w8.heap.size w8 w9) (fun s => R + m - s.1.toNat) ⟨0, rfl, by omega, Below.refl _ _⟩ ?_
    rintro ⟨i, _⟩ w9 ⟨k, rfl, hk9, hB9⟩ I hI
    dsimp only at *
    refine cond_of (fun hlt => ?_) (fun hge => hK _ (hB08.trans (hB9.mono hB08.size)))
    have hlt := of_decide_eq_true hlt
    have next : I (IntKind.i64.wrap ((k : Int) + 1), ()) w9.drew := by
      rw [wrap64_id (by omega)]
      exact hI _ _ ⟨k + 1, by simp, by omega, hB9.drew⟩ (by simp; omega)
    have r1 := (r1.ext hB9).drew
    have r2 := (r2.ext hB9).drew
    have r3 := (r3.ext hB9).drew
    refine cond_of (fun hR => ?_) (fun hR => ?_)
    · have hR : k < R := by have := of_decide_eq_true hR; omega
      obtain ⟨x, hx, hx'⟩ : ∃ x, M[k]? = some x ∧ ∀ h, M[((k : Nat) : Int).toNat]'h = x := ⟨M[k]'(by omega), List.getElem?_eq_getElem _, fun _ => rfl⟩
      have hy : ∀ h, (M ++ List.replicate m (⟨#[]⟩ : ByteArray))[((k : Nat) : Int).toNat]'h = x := fun h => by
        have h1 : (M ++ List.replicate m (⟨#[]⟩ : ByteArray))[k]? = some x := by rw [List.getElem?_append_left (by omega), hx]
        have h2 := List.getElem?_eq_getElem (l := M ++ List.replicate m (⟨#[]⟩ : ByteArray)) (i := k) h
        rw [h1] at h2
        exact (Option.some.inj h2).symm
      refine r2.ix rfl (by omega) (by simp; omega) fun hc => ?_
      refine ldStr_of (x := x) (by rw [hy] at hc; simpa using hc 0 _ rfl) ?_
      refine r1.ix rfl (by omega) (by omega) fun hc => ?_
      refine ldStr_of (x := x) (by rw [hx'] at hc; simpa using hc 0 _ rfl) ?_
      refine cond_f (by simp) ?_
      refine r3.ix rfl (by omega) (by omega) fun hc => ?_
      refine ldStr_of (x := x) (by rw [hx'] at hc; simpa using hc 0 _ rfl) ?_
      refine r1.ix rfl (by omega) (by omega) fun hc => ?_
      refine ldStr_of (x := x) (by rw [hx'] at hc; simpa using hc 0 _ rfl) ?_
      refine cond_f (by simp) ?_
      exact cond_f (by simp; omega) next
    · have hR : ¬ k < R := by have := of_decide_eq_false hR; omega
      refine cond_t (by simp; omega) ?_
      have hy : ∀ h, (M ++ List.replicate m (⟨#[]⟩ : ByteArray))[((k : Nat) : Int).toNat]'h = ⟨#[]⟩ := fun h => by
        have h1 : (M ++ List.replicate m (⟨#[]⟩ : ByteArray))[k]? = some ⟨#[]⟩ := by rw [List.getElem?_append_right (by omega), List.getElem?_replicate, if_pos (by omega)]
        have h2 := List.getElem?_eq_getElem (l := M ++ List.replicate m (⟨#[]⟩ : ByteArray)) (i := k) h
        rw [h1] at h2
        exact (Option.some.inj h2).symm
      refine r2.ix rfl (by omega) (by simp; omega) fun hc => ?_
      refine ldStr_of (x := ⟨#[]⟩) (by rw [hy] at hc; simpa using hc 0 _ rfl) ?_
      exact cond_f (by simp) next

end Go.Proofs.YtgejghejnibocaaDoor
