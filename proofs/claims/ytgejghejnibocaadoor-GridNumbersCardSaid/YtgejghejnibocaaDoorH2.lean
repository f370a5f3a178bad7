/- The laws of grids, walked: GridNumbers. -/
import Derived.Test.YtgejghejnibocaaDoorH1
namespace Go.Proofs.YtgejghejnibocaaDoor
open Go.Vc Go.RowKit

def chN (k : Nat) : Int := (k : Int) + 33
def preN (R k : Nat) : List (List Cell) := List.replicate (R - 1) (newL ((4 : Nat) : Int) a0) ++ (List.range k).map fun i => rowN 4 0 (chN i)
theorem preN_length (R k : Nat) : (preN R k).length = R - 1 + k := by simp [preN]
theorem preN_succ (R k : Nat) : preN R (k + 1) = preN R k ++ [rowN 4 0 (chN k)] := by simp [preN, List.range_succ]
theorem preN_get {R k i : Nat} (h : i < k) : (preN R k)[R - 1 + i]? = some (rowN 4 0 (chN i)) := by
  unfold preN
  rw [List.getElem?_append_right (by simp), List.length_replicate, Nat.add_sub_cancel_left, List.getElem?_map, List.getElem?_range h]
  rfl
def gsN (R back k : Nat) : GS := ⟨R, 4, back, (preN R k).drop k ++ [newL ((4 : Nat) : Int) a0], ((preN R k).take k).drop (k - min k back), (k : Int)⟩
theorem push_window (P : List (List Cell)) (k b : Nat) (x : List Cell) (hx : P[k]? = some x) : pushL b ((P.take k).drop (k - min k b)) x = (P.take (k + 1)).drop (k + 1 - min (k + 1) b) := by
  have hk : k < P.length := (List.getElem?_eq_some_iff.1 hx).1
  have ht : P.take (k + 1) = P.take k ++ [x] := by rw [List.take_add_one, hx]; rfl
  have hl : (P.take k).length = k := by simp; omega
  unfold pushL
  by_cases hb : b = 0
  · subst hb
    rw [if_pos rfl, List.drop_eq_nil_of_le (by omega), List.drop_eq_nil_of_le (by simp; omega)]
  · rw [if_neg hb]
    by_cases hkb : k < b
    · rw [if_pos (by simp; omega), Nat.min_eq_left (by omega), Nat.min_eq_left (by omega), Nat.sub_self, Nat.sub_self, List.drop_zero, List.drop_zero, ht]
    · rw [if_neg (by simp; omega), Nat.min_eq_right (by omega), Nat.min_eq_right (by omega), List.tail_drop, ht, List.drop_append_of_le_length (by omega)]
      congr 2
      omega

theorem gsN_zero (R back : Nat) (h : 1 ≤ R) : gs0 R 4 back = gsN R back 0 := by
  refine gs_eq ?_ ?_ rfl
  · show List.replicate R (newL ((4 : Nat) : Int) a0) = _
    rw [List.drop_zero, preN]
    simp only [List.range_zero, List.map_nil, List.append_nil]
    rw [← List.replicate_succ', Nat.sub_add_cancel h]
  · simp
theorem gsN_len {R back k : Nat} (h : 1 ≤ R) : (gsN R back k).L.length = (gsN R back k).rows := by
  show ((preN R k).drop k ++ [_]).length = R
  simp [preN_length]
  omega
theorem gsN_step {R back k : Nat} (hR : 1 ≤ R) (hk : k < 1000) : scrollG { gsN R back k with L := (gsN R back k).L.set (R - 1) (rowN 4 0 (chN k)) } 0 R 1 a0 = gsN R back (k + 1) := by
  have hlen : ((preN R k).drop k).length = R - 1 := by simp [preN_length]
  have hL1 : (gsN R back k).L.set (R - 1) (rowN 4 0 (chN k)) = (preN R (k + 1)).drop k := by
    show ((preN R k).drop k ++ [_]).set (R - 1) _ = _
    rw [List.set_append_right _ _ (by omega), hlen, Nat.sub_self, List.set_cons_zero, preN_succ, List.drop_append_of_le_length (by rw [preN_length]; omega)]
  rw [hL1]
  have hl2 : ((preN R (k + 1)).drop k).length = R := by simp [preN_length]; omega
  have hm : scrollM 0 R 1 = 1 := by unfold scrollM; rw [if_neg (by decide)]; omega
  have hg : ¬ scrollBad R 0 R 1 := by unfold scrollBad; omega
  have e : scrollG { gsN R back k with L := (preN R (k + 1)).drop k } 0 R 1 a0 = ⟨R, 4, back, scrollL 4 ((preN R (k + 1)).drop k) 0 R 1 a0, pushAll back (((preN R k).take k).drop (k - min k back)) (((preN R (k + 1)).drop k).take (scrollM 0 R 1)), IntKind.i64.wrap ((k : Int) + scrollM 0 R 1)⟩ := by
    unfold scrollG
    show (if scrollBad R 0 R 1 then _ else if _ then _ else _) = _
    rw [if_neg hg, if_pos ⟨by decide, rfl⟩]
    rfl
  rw [e]
  refine gs_eq ?_ ?_ ?_
  · unfold scrollL
    dsimp only
    rw [if_pos (by decide), hm]
    show List.take (0 : Int).toNat _ ++ List.drop ((0 : Int).toNat + 1) (List.take R _) ++ List.replicate 1 (newL ((4 : Nat) : Int) a0) ++ List.drop R _ = _
    have e1 : List.take R ((preN R (k + 1)).drop k) = (preN R (k + 1)).drop k := List.take_of_length_le (by omega)
    have e2 : List.drop R ((preN R (k + 1)).drop k) = [] := List.drop_eq_nil_of_le (by omega)
    rw [e1, e2]
    show [] ++ List.drop 1 _ ++ [newL ((4 : Nat) : Int) a0] ++ [] = _
    rw [List.drop_drop]
    simp
  · rw [hm]
    have hx : (preN R (k + 1))[k]? = some ((preN R (k + 1))[k]'(by rw [preN_length]; omega)) := List.getElem?_eq_getElem _
    have h1 : ((preN R (k + 1)).drop k).take 1 = [(preN R (k + 1))[k]'(by rw [preN_length]; omega)] := by
      rw [List.drop_eq_getElem_cons (by rw [preN_length]; omega)]
      rfl
    rw [h1]
    show pushL back (((preN R k).take k).drop (k - min k back)) _ = _
    have h2 : (preN R k).take k = (preN R (k + 1)).take k := by rw [preN_succ, List.take_append_of_le_length (by rw [preN_length]; omega)]
    rw [h2]
    exact push_window _ _ _ _ hx
  · rw [hm]
    show IntKind.i64.wrap ((k : Int) + ((1 : Nat) : Int)) = _
    rw [wrap64_id (by omega)]
    rfl

theorem GridNumbers_law {rows back n : Int} {w : World} {K : Bool → World → Prop} (hK : ∀ w', Below w.heap.size w w' → K true w') : c_phosphorlaw16_GridNumbers rows back n w K := by
  refine call_phosphorlaw16_GridNumbers _ _ _ ?_
  unfold sh_phosphorlaw16_GridNumbers
  refine known16 fun w1 hB1 => ?_
  refine cond_f rfl ?_
  refine joinP_of fun J1 hJ1 => ?_
  refine cond_of (fun _ => hK _ hB1) (fun c1 => cond_of (fun _ => hK _ hB1) (fun c2 => cond_of (fun _ => hK _ hB1) (fun c3 => cond_of (fun _ => hK _ hB1) (fun c4 => cond_of (fun _ => hK _ hB1) (fun c5 => cond_of (fun _ => hK _ hB1) (fun c6 => ?_))))))
  have c1 := of_decide_eq_false c1
  have c2 := of_decide_eq_false c2
  have c3 := of_decide_eq_false c3
  have c4 := of_decide_eq_false c4
  have c5 := of_decide_eq_false c5
  have c6 := of_decide_eq_false c6
  obtain ⟨R, rfl⟩ : ∃ R : Nat, rows = R := ⟨rows.toNat, by omega⟩
  obtain ⟨b, rfl⟩ : ∃ R : Nat, back = R := ⟨back.toNat, by omega⟩
  obtain ⟨n, rfl⟩ : ∃ R : Nat, n = R := ⟨n.toNat, by omega⟩
  refine hJ1 _ _ ?_
  clear hJ1
  refine gNew_spec (fun hb => ?_) (fun _ f w2 h2 hB2 => ?_)
  · unfold badGrid at hb; omega
  refine joinP_of fun J hJ => ?_
  refine cond_f rfl (cond_f rfl (hJ _ _ ?_))
  clear hJ
  have hs1 := hB1.size
  have hs2 := hB2.size
  have hB02 : Below w.heap.size w w2 := hB1.trans (hB2.mono hs1)
  refine loopP_rule (fun (s : Int × Unit) w3 => ∃ (k : Nat) (f' : Foot), s.1 = k ∧ k ≤ n ∧ f'.g = f.g ∧ GridM w3 w1.heap.size f' (gsN R b k) ∧ Below w.heap.size w w3 ∧ w1.heap.size ≤ w3.heap.size) (fun s => n - s.1.toNat)
    ⟨0, f, rfl, by omega, rfl, ?_, hB02, hs2⟩ ?_
  · rw [← gsN_zero R b (by omega)]
    exact h2
  rintro ⟨i, _⟩ w3 ⟨k, f', rfl, hk, hfg, h3, hB3, hs3⟩ I hI
  dsimp only at *
  rw [← hfg]
  refine cond_of (fun hlt => ?_) (fun hge => ?_)
  · have hlt := of_decide_eq_true hlt
    have hch : IntKind.i32.wrap (IntKind.i64.wrap ((k : Int) + 33)) = chN k := by
      rw [wrap64_id (by omega)]
      exact IntWalk.i32_in _ (by omega)
    rw [hch, wrap64_id (x := (R : Int) - 1) (by omega)]
    refine setChr h3 rfl ⟨show 1 ≤ 4 by decide, show 4 ≤ 1000 by decide⟩ (by decide) (by decide) ⟨by omega, by show (R : Int) - 1 < (R : Int); omega⟩ (gsN_len (by omega)) hs3 fun w4 h4 hc4 => ?_
    have hB4 := grid_below h3 hB3 hs1 hs3 hc4
    have hs4 : w1.heap.size ≤ w4.heap.size := Nat.le_trans hs3 hc4.size
    refine cond_f rfl ?_
    rw [show ((R : Int) - 1).toNat = R - 1 by omega] at h4
    refine gScroll_spec h4 (by show (List.set _ _ _).length = R; rw [List.length_set]; exact gsN_len (by omega)) (by show R ≤ 1000; omega) (by show b ≤ 100000; omega) hs4 (by decide) fun f5 w5 h5 hf5 hc5 => ?_
    have hB5 := grid_below h4 hB4 hs1 hs4 hc5
    have hs5 : w1.heap.size ≤ w5.heap.size := Nat.le_trans hs4 hc5.size
    have hr : scrollR (gsN R b k).rows 0 R 1 = 1 := by
      show scrollR R 0 R 1 = 1
      have hg : ¬ (scrollBad R 0 R 1 ∨ (1 : Int) < 0 ∨ (0 : Int) ≠ 0) := by unfold scrollBad; omega
      rw [scrollR, if_neg hg]
      unfold scrollM
      rw [if_neg (by decide)]
      omega
    rw [hr]
    refine cond_f rfl ?_
    rw [wrap64_id (by omega)]
    refine hI _ _ ⟨k + 1, f5, by simp, by omega, hf5.g.trans hfg, ?_, hB5, hs5⟩ (by simp; omega)
    rw [← gsN_step (by omega) (by omega)]
    exact h5
  · have hge := of_decide_eq_false hge
    have : k = n := by omega
    subst this
    clear hI I
    have hol : (gsN R b k).old.length = min k b := by
      show (((preN R k).take k).drop (k - min k b)).length = _
      simp [preN_length]
      omega
    have hat : ∀ i : Nat, i < k → IntKind.i64.wrap (IntKind.i64.wrap ((R : Int) - 1) + i) = ((R - 1 + i : Nat) : Int) := fun i hi => by
      rw [wrap64_id (x := (R : Int) - 1) (by omega), wrap64_id (by omega)]
      omega
    have hfirst : IntKind.i64.wrap ((gsN R b k).top - (gsN R b k).old.length) = (k : Int) - (min k b : Nat) := by
      rw [hol]
      show IntKind.i64.wrap ((k : Int) - (min k b : Nat)) = _
      rw [wrap64_id (by omega)]
    have hwid : ∀ xs ∈ (gsN R b k).L, xs.length ≤ 1000000 := fun xs hx => by
      have hx : xs ∈ (preN R k).drop k ++ [newL ((4 : Nat) : Int) a0] := hx
      rcases List.mem_append.1 hx with h | h
      · have h := List.mem_of_mem_drop h
        rcases List.mem_append.1 h with h | h
        · rw [List.eq_of_mem_replicate h, newL_eq (by decide)]; simp
        · obtain ⟨i, _, rfl⟩ := List.mem_map.1 h
          rw [rowN_length]; decide
      · rw [List.mem_singleton.1 h, newL_eq (by decide)]; simp
    have hwid' : ∀ xs ∈ (gsN R b k).old, xs.length ≤ 1000000 := fun xs hx => by
      have hx : xs ∈ ((preN R k).take k).drop (k - min k b) := hx
      have h := List.mem_of_mem_take (List.mem_of_mem_drop hx)
      rcases List.mem_append.1 h with h | h
      · rw [List.eq_of_mem_replicate h, newL_eq (by decide)]; simp
      · obtain ⟨i, _, rfl⟩ := List.mem_map.1 h
        rw [rowN_length]; decide
    refine loopP_rule (fun (s : Int × Unit) w4 => ∃ (j : Nat), s.1 = j ∧ j ≤ k ∧ GridM w4 w1.heap.size f' (gsN R b k) ∧ Below w.heap.size w w4) (fun s => k - s.1.toNat) ⟨0, rfl, by omega, h3, hB3⟩ ?_
    rintro ⟨i, _⟩ w4 ⟨j, rfl, hj, h4, hB4⟩ I hI
    dsimp only at *
    refine cond_of (fun hlt => ?_) (fun hge => ?_)
    · have hlt := of_decide_eq_true hlt
      have hjk : j < k := by omega
      rw [hat j hjk]
      have hch : IntKind.i32.wrap (IntKind.i64.wrap ((j : Int) + 33)) = chN j := by
        rw [wrap64_id (by omega)]
        exact IntWalk.i32_in _ (by omega)
      rw [hch]
      refine joinP_of fun J hJ => ?_
      have main : ∀ (l : Slc) (is : Bool) w', GridM w' w1.heap.size f' (gsN R b k) → Below w.heap.size w w' → (((R - 1 + j : Nat) : Int) ≥ (k : Int) - (min k b : Nat) → is = true ∧ Rd cellE w' l (rowN 4 0 (chN j))) → J (l, is, ()) w' := fun l is w' h hB hl => hJ _ _ (by
        dsimp only
        refine gFirst_spec h ?_
        rw [hfirst]
        have next : I (IntKind.i64.wrap ((j : Int) + 1), ()) w'.drew := by
          rw [wrap64_id (by omega)]
          exact hI _ _ ⟨j + 1, by simp, by omega, h.drew, hB.drew⟩ (by simp; omega)
        refine cond_of (fun hc => ?_) (fun _ => next)
        obtain ⟨rfl, hrd⟩ := hl (of_decide_eq_true hc)
        have hrd := hrd.drew
        refine cond_f rfl (cond_f (by rw [hrd.n, rowN_length]; rfl) ?_)
        refine hrd.ix rfl (by decide) (by rw [rowN_length]; decide) fun hcell => ?_
        refine ldI_of (x := chN j) (hcell 0 _ rfl) ?_
        exact cond_f (by simp) next)
      refine gTop_spec h4 ?_
      refine cond_of (fun ht => ?_) (fun ht => ?_)
      · have ht : ((R - 1 + j : Nat) : Int) ≥ (k : Int) := of_decide_eq_true ht
        refine gTop_spec h4 ?_
        refine gLine_spec h4 (gsN_len (by omega)) hwid (fun s xs w5 h0 hx ho hB5 => ?_) (fun hn => ?_)
        · refine main _ _ _ (h4.ext hB5) (hB4.trans (hB5.mono hB4.size)) fun _ => ⟨rfl, ?_⟩
          have e : (IntKind.i64.wrap (((R - 1 + j : Nat) : Int) - (gsN R b k).top)).toNat = R - 1 + j - k := by
            show (IntKind.i64.wrap (((R - 1 + j : Nat) : Int) - (k : Int))).toNat = _
            rw [wrap64_id (by omega)]
            omega
          rw [e] at hx
          have hx : ((preN R k).drop k ++ [newL ((4 : Nat) : Int) a0])[R - 1 + j - k]? = some xs := hx
          rw [List.getElem?_append_left (by simp [preN_length]; omega), List.getElem?_drop, show k + (R - 1 + j - k) = R - 1 + j by omega, preN_get hjk] at hx
          rw [Option.some.inj hx]
          exact ho.rd
        · exfalso
          apply hn
          show 0 ≤ IntKind.i64.wrap (((R - 1 + j : Nat) : Int) - (k : Int)) ∧ IntKind.i64.wrap (((R - 1 + j : Nat) : Int) - (k : Int)) < (R : Int)
          rw [wrap64_id (by omega)]
          omega
      · have ht : ¬ ((R - 1 + j : Nat) : Int) ≥ (k : Int) := of_decide_eq_false ht
        refine gFirst_spec h4 ?_
        rw [hfirst]
        refine cond_of (fun hc => ?_) (fun hc => ?_)
        · have hc := of_decide_eq_true hc
          refine gFirst_spec h4.drew ?_
          rw [hfirst]
          have hi : IntKind.i64.wrap (((R - 1 + j : Nat) : Int) - ((k : Int) - (min k b : Nat))) = ((R - 1 + j - (k - min k b) : Nat) : Int) := by
            rw [wrap64_id (by omega)]
            omega
          rw [hi]
          refine gOld_spec h4.drew.drew (by show b ≤ 100000; omega) (by omega) hwid' (fun s xs w5 h0 hx ho hB5 => ?_) (fun hn => ?_)
          · refine main _ _ _ (h4.drew.drew.ext hB5) (hB4.drew.drew.trans (hB5.mono hB4.size)) fun _ => ⟨rfl, ?_⟩
            have hx : (((preN R k).take k).drop (k - min k b))[R - 1 + j - (k - min k b)]? = some xs := hx
            rw [List.getElem?_drop, show k - min k b + (R - 1 + j - (k - min k b)) = R - 1 + j by omega, List.getElem?_take_of_lt (by omega), preN_get hjk] at hx
            rw [Option.some.inj hx]
            exact ho.rd
          · rw [hol] at hn
            omega
        · have hc := of_decide_eq_false hc
          exact main _ _ _ h4.drew hB4.drew fun h => absurd h hc
    · refine gTop_spec h4 ?_
      refine cond_t (by simp [gsN]) ?_
      refine gBack_spec h4 ?_
      rw [hol]
      refine cond_t (by simp; omega) ?_
      refine gFirst_spec h4 ?_
      rw [hfirst]
      refine gTop_spec h4.drew ?_
      refine gBack_spec h4.drew ?_
      rw [hol]
      have : ((k : Int) - (min k b : Nat) == IntKind.i64.wrap ((gsN R b k).top - ((min k b : Nat) : Int))) = true := by
        show ((k : Int) - (min k b : Nat) == IntKind.i64.wrap ((k : Int) - ((min k b : Nat) : Int))) = true
        rw [wrap64_id (by omega)]
        simp
      rw [this]
      exact hK _ hB4.drew

end Go.Proofs.YtgejghejnibocaaDoor
