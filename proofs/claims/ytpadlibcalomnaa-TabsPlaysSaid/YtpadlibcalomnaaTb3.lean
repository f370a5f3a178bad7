/- The program's tab stops: Resize, New. -/
import Derived.Test.YtpadlibcalomnaaTb2
set_option linter.unusedVariables false
namespace Go.Proofs.Ytpadlibcalomnaa
open Go.Vc Go.RowKit
set_option maxRecDepth 100000

section
variable {w w' : World} {g r : Nat} {B : List Bool}
theorem All_gen {x : Int} {L : List (Int × Unit)} (hb : Blk w g ty_tabs_Stops [.int .i64 x, .map (some r)]) (hm : MapM encT w r L) (hl : L.length ≤ 1000) {K : Slc → World → Prop}
    (hK : ∀ q w', Own E_int w' w.heap.size q (L.map (·.1)) → Below w.heap.size w w' → K q w') : c_tabs_Stops_All (some ⟨g, 0, none⟩) w K := by
  refine call_tabs_Stops_All _ ?_
  unfold sh_tabs_Stops_All
  refine onPtr_some' (ldM_of (x := some r) (hb.cells 1 _ rfl) (Keys_spec ?_))
  have hB : Below w.heap.size w (w.alloc (.cells #[.map (some r)] 42)) := (Below.refl _ w).alloc (Nat.le_refl _) _
  have hs : (w.alloc (.cells #[.map (some r)] 42)).heap.size = w.heap.size + 1 := by show (w.heap.push _).size = _; simp
  have hb : Blk (w.alloc (.cells #[.map (some r)] 42)) w.heap.size 42 [.map (some r)] := Blk.new w 42 [.map (some r)]
  refine Sorted_spec (hm.ext hB) (by omega) (hb.cell 0 rfl) fun q w' hq hB' => ?_
  exact hK q w' (hq.base (by omega)) (hB.trans (hB'.mono (by omega)))
theorem dflt_eq {m : Nat} (h : 1 ≤ m) : ((m : Int).tmod 8 == 0) = dflt m := by
  unfold dflt
  rw [show ((m : Int).tmod 8) = ((m % 8 : Nat) : Int) by rw [Int.ofNat_tmod]; rfl]
  rw [decide_eq_true (by omega), Bool.true_and]
  by_cases e : m % 8 = 0
  · rw [e]; rfl
  · rw [decide_eq_false e]
    simp
    omega
theorem Resize_spec (h : StopsM w g r B) (hl : B.length ≤ 1000) (cols : Int) {K : Int → World → Prop} (hE : (cols < 1 ∨ 1000 < cols) → K 1 w)
    (hK : ∀ w', 1 ≤ cols → cols ≤ 1000 → StopsM w' g r (resz B cols.toNat) → Chg (fun k => k = g ∨ k = r) w w' → K 0 w') : c_tabs_Stops_Resize (some ⟨g, 0, none⟩) cols w K := by
  refine call_tabs_Stops_Resize _ _ ?_
  unfold sh_tabs_Stops_Resize
  refine joinP_of fun J hJ => ?_
  refine cond_of (fun h1 => hE (.inl (of_decide_eq_true h1))) fun h1 => ?_
  refine cond_of (fun h2 => hE (.inr (of_decide_eq_true h2))) fun h2 => ?_
  have h1 := of_decide_eq_false h1
  have h2 := of_decide_eq_false h2
  obtain ⟨n, rfl⟩ : ∃ n : Nat, cols = n := ⟨cols.toNat, by omega⟩
  rw [Int.toNat_natCast] at hK
  refine hJ _ _ ?_
  refine onPtr_some' (ldI_of (x := (B.length : Int)) (h.blk.cells 0 _ rfl) ?_)
  -- new columns
  refine loopP_rule (fun (s : Int × Unit) w2 => ∃ m : Nat, s.1 = m ∧ 1 ≤ m ∧ B.length ≤ m ∧ (m ≤ n ∨ m ≤ B.length ∨ m = 1) ∧ Blk w2 g ty_tabs_Stops [.int .i64 (B.length : Int), .map (some r)] ∧ MapM encT w2 r (keysB (resz B m)) ∧ Chg (fun k => k = r) w w2)
    (fun s => n - s.1.toNat) ?_ ?_
  · have hm0 : ∃ m : Nat, (if (1 : Int) > (B.length : Int) then (1 : Int) else (B.length : Int)) = m ∧ 1 ≤ m ∧ B.length ≤ m ∧ (m ≤ B.length ∨ m = 1) ∧ keysB (resz B m) = keysB B := by
      split
      · exact ⟨1, rfl, Nat.le_refl _, by omega, .inr rfl, resz_one (by omega)⟩
      · exact ⟨B.length, rfl, by omega, Nat.le_refl _, .inl (Nat.le_refl _), by rw [resz_self]⟩
    obtain ⟨m, e, hm1, hm2, hm3, hm4⟩ := hm0
    exact ⟨m, e, hm1, hm2, .inr hm3, h.blk, by rw [hm4]; exact h.map, Chg.refl _ _⟩
  rintro ⟨i, u⟩ w2 ⟨m, hi, hm1, hm2, hm3, hb2, hmp2, hc2⟩ I hI
  dsimp only at hi ⊢
  subst hi
  have hne := hmp2.ne_blk hb2
  by_cases hlt : m < n
  · refine cond_t (by simp; omega) ⟨by decide, ?_⟩
    rw [dflt_eq hm1, i64_of (by omega)]
    refine cond_of (fun hd => ?_) fun hd => ?_
    · refine onPtr_some' (ldM_of (x := some r) (hb2.cells 1 _ rfl) (update_spec hmp2 (by omega) fun w3 hm hc hs => hI _ _ ⟨m + 1, by simp, by omega, by omega, .inl (by omega), hb2.chg hc (fun e => hne e.symm), ?_, hc2.trans hc fun i _ hi => hi⟩ (by simp; omega)))
      rw [← (resz_step hm2).1 hd]
      exact hm
    · refine hI _ _ ⟨m + 1, by simp, by omega, by omega, .inl (by omega), hb2, ?_, hc2⟩ (by simp; omega)
      rw [← (resz_step hm2).2 hd]
      exact hmp2
  · refine cond_f (by simp; omega) ?_
    have hmle : (keysB (resz B m)).length ≤ 1000 := by
      have := keys_le (resz B m)
      rw [resz_length] at this
      omega
    refine All_gen hb2 hmp2 hmle fun q w4 hq hB4 => ?_
    obtain ⟨P, hP⟩ : ∃ P, keysB (resz B m) = P := ⟨_, rfl⟩
    have hsP : Srt P := by rw [← hP]; exact srt_keysB _
    rw [hP] at hmp2 hq hmle
    have hcut : P.filter (fun p => decide (p.1 < (n : Int))) = keysB (resz B n) := by rw [← hP]; exact resz_cut (by omega)
    have hqn := hq.rd.n
    rw [List.length_map] at hqn
    have hlt2 := hb2.lt
    have hlr := hmp2.lt
    refine loopP_rule (fun (s : Int × Unit) w5 => ∃ k : Nat, s.1 = k ∧ k ≤ P.length ∧ Blk w5 g ty_tabs_Stops [.int .i64 (B.length : Int), .map (some r)] ∧ Own E_int w5 w2.heap.size q (P.map (·.1)) ∧ Chg (fun k => k = r) w2 w5 ∧
        ∃ L, MapM encT w5 r L ∧ ∀ a, (a, ()) ∈ L ↔ (a, ()) ∈ P ∧ (a < n ∨ a ∉ (P.map (·.1)).take k))
      (fun s => P.length - s.1.toNat) ⟨0, rfl, Nat.zero_le _, hb2.ext hB4, hq, Chg.of_ext hB4, P, hmp2.ext hB4, fun a => by simp⟩ ?_
    rintro ⟨i, u⟩ w5 ⟨k, hi, hk, hb5, hq5, hc5, L, hL, hmem⟩ I2 hI2
    dsimp only at hi ⊢
    subst hi
    have hne5 := hL.ne_blk hb5
    by_cases hlk : k < P.length
    · refine cond_t (by simp; omega) ?_
      refine hq5.rd.ix (k := 1) rfl (by omega) (by simp; omega) fun hcell => ?_
      obtain ⟨x, hx, hx'⟩ := get_of (xs := P.map (·.1)) (k := k) (by simpa using hlk)
      rw [hx' _] at hcell
      refine ldI_of (x := x) (by simpa using hcell 0 _ rfl) ?_
      have htk : (P.map (·.1)).take (k + 1) = (P.map (·.1)).take k ++ [x] := by rw [List.take_add_one, hx]; rfl
      rw [i64_of (by omega)]
      refine cond_of (fun hge => ?_) fun hge => ?_
      · have hge := of_decide_eq_true hge
        refine onPtr_some' (ldM_of (x := some r) (hb5.cells 1 _ rfl) (delete_spec hL x fun v w6 hm6 hc6 hs6 => hI2 _ _ ⟨k + 1, by simp, by omega, hb5.chg hc6 (fun e => hne5 e.symm), hq5.chg hc6 (fun j hj e => ?_), hc5.trans hc6 fun i _ hi => hi, _, hm6, fun a => ?_⟩ (by simp; omega)))
        · have := (hq5.lt j hj).1
          omega
        · rw [mem_delL, hmem a, htk, List.mem_append, List.mem_singleton]
          constructor
          · rintro ⟨hne, hp, ho⟩
            exact ⟨hp, ho.imp id fun ho hh => hh.elim ho hne⟩
          · rintro ⟨hp, ho⟩
            refine ⟨fun e => ?_, hp, ho.imp id fun ho hh => ho (.inl hh)⟩
            rcases ho with ho | ho
            · omega
            · exact ho (.inr e)
      · have hge := of_decide_eq_false hge
        refine hI2 _ _ ⟨k + 1, by simp, by omega, hb5, hq5, hc5, L, hL, fun a => ?_⟩ (by simp; omega)
        rw [hmem a, htk, List.mem_append, List.mem_singleton]
        constructor
        · rintro ⟨hp, ho⟩
          refine ⟨hp, ?_⟩
          by_cases e : a = x
          · exact .inl (by omega)
          · exact ho.imp id fun ho hh => hh.elim ho e
        · rintro ⟨hp, ho⟩
          exact ⟨hp, ho.imp id fun ho hh => ho (.inl hh)⟩
    · refine cond_f (by simp; omega) (onPtr_some' ?_)
      rw [add_zero]
      refine stK_blk hb5 (by simp) fun w7 hb7 hg7 hs7 => ?_
      have hL' : L = keysB (resz B n) := by
        rw [← hcut]
        refine srt_ext hL.srt (hsP.filter _) fun a => ?_
        rw [hmem a, List.mem_filter, List.take_of_length_le (by simp; omega)]
        constructor
        · rintro ⟨hp, ho⟩
          refine ⟨hp, ?_⟩
          rcases ho with ho | ho
          · simpa using ho
          · exact absurd (List.mem_map.2 ⟨_, hp, rfl⟩) ho
        · rintro ⟨hp, ho⟩
          exact ⟨hp, .inl (by simpa using ho)⟩
      rw [hL'] at hL
      refine hK w7 (by omega) (by omega) ⟨by rw [resz_length]; exact hb7, hL.chg (Chg.gg hg7) hne5⟩ ?_
      exact ((chg_one hc2 (S := fun k => k = g ∨ k = r) (.inr rfl)).trans (chg_one hc5 (S := fun k => k = g ∨ k = r) (.inr rfl)) fun i _ hi => hi).trans (chg_one (Chg.gg hg7) (S := fun k => k = g ∨ k = r) (.inl rfl)) fun i _ hi => hi
theorem New_spec (cols : Int) {w : World} {K : Option Addr → Int → World → Prop} (hE : ∀ w', Below w.heap.size w w' → (cols < 1 ∨ 1000 < cols) → K none 1 w')
    (hK : ∀ g r w', 1 ≤ cols → cols ≤ 1000 → w.heap.size ≤ g → w.heap.size ≤ r → StopsM w' g r (resz [] cols.toNat) → Below w.heap.size w w' → K (some ⟨g, 0, none⟩) 0 w') : c_tabs_New cols w K := by
  refine call_tabs_New _ ?_
  unfold sh_tabs_New nwM
  have hB1 : Below w.heap.size w (w.alloc (.map #[] 0)) := (Below.refl _ w).alloc (Nat.le_refl _) _
  have hs1 : (w.alloc (.map #[] 0)).heap.size = w.heap.size + 1 := by show (w.heap.push _).size = _; simp
  refine nw_blk fun w2 hb2 hB2 hs2 => ?_
  have h2 : StopsM w2 (w.alloc (.map #[] 0)).heap.size w.heap.size [] := ⟨hb2, (MapM.new w).ext hB2⟩
  have hB12 := hB1.trans (hB2.mono (by omega))
  refine Resize_spec h2 (by simp) cols (fun hc => cond_t rfl (hE w2 hB12 hc)) fun w3 h1 h2' h3 hc3 => cond_f rfl ?_
  refine hK _ _ w3 h1 h2' (by omega) (Nat.le_refl _) h3 (hB12.trans (hc3.below (by omega) fun i hi e => ?_))
  rcases e with e | e <;> omega
end
end Go.Proofs.Ytpadlibcalomnaa
