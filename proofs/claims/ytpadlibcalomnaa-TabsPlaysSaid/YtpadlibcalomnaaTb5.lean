/- The document's tab stops: their memory, and what each operation comes to. -/
import Derived.Test.YtpadlibcalomnaaTb3
set_option linter.unusedVariables false
namespace Go.Proofs.Ytpadlibcalomnaa
open Go.Vc Go.RowKit
set_option maxRecDepth 100000

/-! ### Plain -/
theorem keys_take (B : List Bool) (c : Nat) : (keysB B).filter (fun p => decide (p.1 < (c : Int))) = keysB (B.take c) := by
  refine srt_ext ((srt_keysB _).filter _) (srt_keysB _) fun a => ?_
  rw [List.mem_filter, mem_keysB, mem_keysB]
  constructor
  · rintro ⟨⟨j, rfl, hj⟩, hc⟩
    have hc : ((j : Int)) < c := of_decide_eq_true hc
    exact ⟨j, rfl, by rw [List.getElem?_take_of_lt (by omega)]; exact hj⟩
  · rintro ⟨j, rfl, hj⟩
    rw [List.getElem?_take] at hj
    split at hj
    · exact ⟨⟨j, rfl, hj⟩, by simp; omega⟩
    · cases hj
theorem keys_drop (B : List Bool) (c : Nat) : (keysB B).filter (fun p => decide ((c : Int) < p.1)) = keysF ((c : Int) + 1) (B.drop (c + 1)) := by
  refine srt_ext ((srt_keysB _).filter _) (srt_keysF _ _) fun a => ?_
  rw [List.mem_filter, mem_keysB, mem_keysF]
  constructor
  · rintro ⟨⟨j, rfl, hj⟩, hc⟩
    have hc : (c : Int) < (j : Int) := of_decide_eq_true hc
    exact ⟨j - (c + 1), by omega, by rw [List.getElem?_drop, show c + 1 + (j - (c + 1)) = j by omega]; exact hj⟩
  · rintro ⟨j, rfl, hj⟩
    rw [List.getElem?_drop] at hj
    exact ⟨⟨c + 1 + j, by omega, hj⟩, by simp; omega⟩
theorem keysF_snoc : ∀ (X : List Bool) (i : Int) (b : Bool), keysF i (X ++ [b]) = keysF i X ++ (if b then [(i + X.length, ())] else [])
  | [], i, b => by cases b <;> simp [keysF]
  | x :: X, i, b => by
    have ih := keysF_snoc X (i + 1) b
    have e : i + 1 + (X.length : Int) = i + ((X.length + 1 : Nat) : Int) := by omega
    rw [List.cons_append, keysF, keysF, ih, e, List.length_cons]
    cases x <;> simp
theorem map_filter1 (p : Int → Bool) (L : List (Int × Unit)) : (L.map (·.1)).filter p = (L.filter fun q => p q.1).map (·.1) := by rw [List.filter_map]; rfl
theorem nth_cons (k : Int) (ks : List Int) {m : Int} (d : Int) (h : 1 ≤ m) : nth (k :: ks) m d = if m = 1 then k else nth ks (m - 1) d := by
  unfold nth
  split
  · rename_i e; subst e; rfl
  · rw [show (m - 1).toNat = (m - 1 - 1).toNat + 1 by omega, List.getElem?_cons_succ]
/-- The document's stops at g, with their row q. -/
structure RefM (w : World) (base g : Nat) (q : Slc) (B : List Bool) : Prop where
  blk : Blk w g ty_phosphorref15_Stops [.slice q.a q.n q.c]
  own : Own E_bool w base q B
section
variable {w w' : World} {base g : Nat} {q : Slc} {B : List Bool}
theorem RefM.ne (h : RefM w base g q B) : ∀ k, q.blk = some k → k ≠ g := own_ne_blk h.own h.blk (by decide)
theorem RefM.keep {Sx : Nat → Prop} (h : RefM w base g q B) (hc : Chg Sx w w') (hg : ¬ Sx g) (hq : ∀ k, q.blk = some k → ¬ Sx k) : RefM w' base g q B := ⟨h.blk.chg hc hg, h.own.chg hc hq⟩
theorem RefM.ext (h : RefM w base g q B) (hb : Below w.heap.size w w') : RefM w' base g q B := ⟨h.blk.ext hb, h.own.ext hb⟩
theorem RefM.ld (h : RefM w base g q B) : w.cell? ((⟨g, 0, none⟩ : Addr).add 0) = some (.slice q.a q.n q.c) := h.blk.cells 0 _ rfl
theorem RefM.at_ (h : RefM w base g q B) {i : Nat} {b : Bool} (hb : B[i]? = some b) : w.cell? (q.at_ E_bool.k i) = some (.bool b) := by
  have := h.own.rd.at_ i b hb 0 (.bool b) rfl
  simpa using this
theorem rNew_spec (cols : Int) {w : World} {base : Nat} (hbase : base ≤ w.heap.size) {K : Option Addr → Int → World → Prop} (hE : (cols < 1 ∨ 1000 < cols) → K none 1 w)
    (hK : ∀ q w', 1 ≤ cols → cols ≤ 1000 → RefM w' w.heap.size w.heap.size q (resz [] cols.toNat) → Below w.heap.size w w' → K (some ⟨w.heap.size, 0, none⟩) 0 w') : c_phosphorref15_New cols w K := by
  refine call_phosphorref15_New _ ?_
  unfold sh_phosphorref15_New
  refine joinP_of fun J hJ => ?_
  refine cond_of (fun h1 => hE (.inl (of_decide_eq_true h1))) fun h1 => ?_
  refine cond_of (fun h2 => hE (.inr (of_decide_eq_true h2))) fun h2 => ?_
  have h1 := of_decide_eq_false h1
  have h2 := of_decide_eq_false h2
  obtain ⟨n, rfl⟩ : ∃ n : Nat, cols = n := ⟨cols.toNat, by omega⟩
  rw [Int.toNat_natCast] at hK
  refine hJ _ _ ?_
  refine nw_blk fun w1 hb1 hB1 hs1 => ?_
  refine loopP_rule (fun (s : Int × Unit) w2 => ∃ m : Nat, s.1 = m ∧ m ≤ n ∧ (∃ q, RefM w2 w.heap.size w.heap.size q (resz [] m)) ∧ Below w.heap.size w w2 ∧ w1.heap.size ≤ w2.heap.size)
    (fun s => n - s.1.toNat) ⟨0, rfl, Nat.zero_le _, ⟨⟨none, 0, 0⟩, hb1, Own.nil _ _ _⟩, hB1, Nat.le_refl _⟩ ?_
  rintro ⟨i, u⟩ w2 ⟨m, hi, hm, ⟨q, hR⟩, hB2, hsz⟩ I hI
  dsimp only at hi ⊢
  subst hi
  have hg := hR.blk.lt
  have hsnoc : ∀ b : Bool, b = dflt m → (nw ty_bool [(.bool b)] w2 fun t31 w4 => apK PG #[ty_sl_bool, ty_sl_bool] ty_sl_bool q (⟨(some t31), 1, 1⟩ : Slc) w4 fun t32 w5 =>
            stK ((⟨w.heap.size, 0, none⟩ : Addr).add 0) [(.slice t32.a t32.n t32.c)] w5 fun w6 => I ((IntKind.i64.wrap ((m : Int) + (1 : Int))), ()) w6) ∨ ¬ m < n := by
    intro b hb
    by_cases hlt : m < n
    · left
      subst hb
      refine snoc_own (E := E_bool) sT_sl_bool hR.own rfl (by omega) (by rw [by_sl_bool, resz_length]; omega) (by rw [resz_length]; unfold maxLen; omega) fun r w5 ho hc hr => ?_
      have hbl := hR.blk.chg hc fun e => hR.ne _ e rfl
      rw [add_zero]
      refine stK_blk hbl (by simp) fun w6 hb6 hg6 hs6 => ?_
      rw [i64_in (by omega)]
      have ho6 := ho.chg (Chg.gg hg6) fun k hk e => own_ne_blk ho hbl (by decide) k hk e
      have e : resz [] m ++ [dflt m] = resz [] (m + 1) := by unfold resz; rw [List.range_succ, List.map_append]; rfl
      rw [e] at ho6
      refine hI _ _ ⟨m + 1, by simp, by omega, ⟨r, hb6, ho6⟩, ?_, ?_⟩ (by simp; omega)
      · exact (hB2.trans ((hc.below hB2.size fun i hi e => by have := (hR.own.lt i e).1; omega))).grown hg6 (by have := hc.size; omega) fun k hk => by cases hk; exact Nat.le_refl _
      · have := hc.size
        omega
    · exact .inr hlt
  by_cases hlt : m < n
  · refine cond_t (by simp; omega) ?_
    refine ldSl_of (x := q) hR.ld ?_
    refine cond_of (fun hp => ⟨by decide, ?_⟩) fun hp => ?_
    · have hp : (0 : Int) < m := of_decide_eq_true hp
      refine (hsnoc ((m : Int).tmod 8 == 0) (dflt_eq (by omega))).resolve_right (by omega)
    · have hp : ¬ (0 : Int) < m := of_decide_eq_false hp
      obtain rfl : m = 0 := by omega
      refine (hsnoc false rfl).resolve_right (by omega)
  · refine cond_f (by simp; omega) ?_
    obtain rfl : m = n := by omega
    exact hK q w2 (by omega) (by omega) hR hB2
theorem rPut_spec (h : RefM w base g q B) (col : Int) (b : Bool) {K : Bool → World → Prop}
    (hK : ∀ w', RefM w' base g q (setB B col b) → Chg (fun k => q.blk = some k) w w' → K (inB B col && (b || isStop B col)) w') : c_phosphorref15_Stops_Put (some ⟨g, 0, none⟩) col b w K := by
  refine call_phosphorref15_Stops_Put _ _ _ ?_
  unfold sh_phosphorref15_Stops_Put
  refine joinP_of fun J hJ => ?_
  have hqn := h.own.rd.n
  have hout : inB B col = false → K false w := fun hi => by
    have := hK w (by unfold setB; rw [if_neg (by rw [hi]; simp)]; exact h) (Chg.refl _ _)
    rwa [hi] at this
  refine cond_of (fun h0 => hout (by have h0 : col < 0 := of_decide_eq_true h0; unfold inB; rw [decide_eq_false (by omega)]; rfl)) fun h0 => ?_
  refine onPtr_a (ldSl_of (x := q) h.ld ?_)
  refine cond_of (fun h1 => hout (by have h1 : (q.n : Int) ≤ col := of_decide_eq_true h1; unfold inB; rw [decide_eq_false (p := col < B.length) (by omega)]; simp)) fun h1 => ?_
  have h0 := of_decide_eq_false h0
  have h1 := of_decide_eq_false h1
  obtain ⟨k, rfl⟩ : ∃ k : Nat, col = k := ⟨col.toNat, by omega⟩
  have hk : k < B.length := by omega
  have hi : inB B k = true := by unfold inB; simp; exact hk
  refine hJ _ _ ?_
  refine onPtr_a (ldSl_of (x := q) h.ld ?_)
  refine ixK_at (h.own.rd.some_ (by omega)) (by omega) (by omega) ?_
  rw [Int.toNat_natCast]
  refine ldB_of (x := B[k]) (h.at_ (by simp [hk])) ?_
  refine onPtr_a (ldSl_of (x := q) h.ld ?_)
  refine ixK_at (h.own.rd.some_ (by omega)) (by omega) (by omega) ?_
  rw [Int.toNat_natCast]
  refine h.own.st0 (i := k) (x := B[k]) (y := b) (by simp [hk]) rfl fun w2 ho hg hs => ?_
  have hc : Chg (fun k => q.blk = some k) w w2 := Chg.of_grown hg fun k hk => hk
  have hset : setB B k b = B.set k b := by unfold setB; rw [if_pos hi, Int.toNat_natCast]
  have := hK w2 ⟨h.blk.chg hc fun e => h.ne _ e rfl, by rw [hset]; exact ho⟩ hc
  have hst : isStop B k = B[k] := by unfold isStop; simp [hk]
  rw [hi, hst, Bool.true_and] at this
  refine cond_of (fun hb => by subst hb; exact this) fun hb => by subst hb; simpa using this
theorem rNone_spec (h : RefM w base g q B) (hl : B.length ≤ 1000) (hbase : base ≤ w.heap.size) {K : World → Prop}
    (hK : ∀ q' w', RefM w' base g q' (List.replicate B.length false) → Chg (fun k => k = g) w w' → (∀ k, q'.blk = some k → w.heap.size ≤ k) → K w') : c_phosphorref15_Stops_None (some ⟨g, 0, none⟩) w K := by
  refine call_phosphorref15_Stops_None _ ?_
  unfold sh_phosphorref15_Stops_None
  refine onPtr_a (ldSl_of (x := q) h.ld ?_)
  have hqn := h.own.rd.n
  refine mkSl_of (E := E_bool) sT_sl_bool (x0 := false) rfl (n := B.length) (by omega) (by omega) (by rw [by_sl_bool]; omega) (by unfold maxLen; omega) fun w1 ho hB => ?_
  refine onPtr_a ?_
  rw [add_zero]
  have hb1 := h.blk.ext hB
  have hgl := h.blk.lt
  refine stK_blk hb1 (by simp) fun w2 hb2 hg2 hs2 => ?_
  refine hK ⟨some ⟨w.heap.size, 0, none⟩, B.length, B.length⟩ w2 ⟨hb2, (ho.base hbase).chg (Chg.gg hg2) fun k hk e => own_ne_blk ho hb1 (by decide) k hk e⟩ ((Chg.of_ext hB).trans (Chg.gg hg2) fun i _ hi => hi) fun k hk => by cases hk; exact Nat.le_refl _
theorem rResize_spec (h : RefM w base g q B) (hl : B.length ≤ 1000) (hbase : base ≤ w.heap.size) (cols : Int) {K : Int → World → Prop} (hE : (cols < 1 ∨ 1000 < cols) → K 1 w)
    (hK : ∀ q' w', 1 ≤ cols → cols ≤ 1000 → RefM w' base g q' (resz B cols.toNat) → Chg (fun k => k = g) w w' → (∀ k, q'.blk = some k → w.heap.size ≤ k) → K 0 w') : c_phosphorref15_Stops_Resize (some ⟨g, 0, none⟩) cols w K := by
  refine call_phosphorref15_Stops_Resize _ _ ?_
  unfold sh_phosphorref15_Stops_Resize
  refine rNew_spec cols hbase (fun hc => cond_t rfl (hE hc)) fun q1 w1 h1 h2 hR hB1 => cond_f rfl ?_
  obtain ⟨n, rfl⟩ : ∃ n : Nat, cols = n := ⟨cols.toNat, by omega⟩
  rw [Int.toNat_natCast] at hK hR
  have hqn := h.own.rd.n
  have hgl := h.blk.lt
  refine loopP_rule (fun (s : Int × Unit) w2 => ∃ m : Nat, s.1 = m ∧ m ≤ n ∧ m ≤ B.length ∧ RefM w2 w.heap.size w.heap.size q1 (mix (resz B n) (resz [] n) m) ∧ RefM w2 base g q B ∧ Below w.heap.size w w2)
    (fun s => n - s.1.toNat) ⟨0, rfl, Nat.zero_le _, Nat.zero_le _, by rw [mix_zero]; exact hR, h.ext hB1, hB1⟩ ?_
  rintro ⟨i, u⟩ w2 ⟨m, hi, hm, hmB, hR2, h2', hB2⟩ I hI
  dsimp only at hi ⊢
  subst hi
  have hq1n := hR2.own.rd.n
  have hml : (mix (resz B n) (resz [] n) m).length = n := by rw [mix_length (by simp)]; simp
  rw [hml] at hq1n
  have hend : mix (resz B n) (resz [] n) m = resz B n → (onPtr (some ⟨w.heap.size, 0, none⟩) fun t45 => ldSl (t45.add 0) w2 fun t47 => onPtr (some ⟨g, 0, none⟩) fun t48 => stK (t48.add 0) [(.slice t47.a t47.n t47.c)] w2 fun w5 => K 0 w5) := by
    intro e
    rw [e] at hR2
    refine onPtr_a (ldSl_of (x := q1) hR2.ld (onPtr_a ?_))
    rw [add_zero]
    refine stK_blk h2'.blk (by simp) fun w5 hb5 hg5 hs5 => ?_
    refine hK q1 w5 (by omega) (by omega) ⟨hb5, (hR2.own.base hbase).chg (Chg.gg hg5) fun k hk e => ?_⟩ ?_ fun k hk => (hR2.own.lt k hk).1
    · have := (hR2.own.lt k hk).1
      omega
    · exact (Chg.of_ext hB2).trans (Chg.gg hg5) fun i _ hi => hi
  refine joinP_of fun J2 hJ2 => ?_
  by_cases hlt : m < n
  · refine cond_t (by simp; omega) ?_
    refine onPtr_a (ldSl_of (x := q) h2'.ld ?_)
    by_cases hlb : m < B.length
    · refine cond_t (by simp; omega) (hJ2 _ _ ?_)
      have hR3 : RefM w2.drew w.heap.size w.heap.size q1 _ := ⟨hR2.blk.drew, hR2.own.drew⟩
      have h3 : RefM w2.drew base g q B := ⟨h2'.blk.drew, h2'.own.drew⟩
      refine onPtr_a (ldSl_of (x := q1) hR3.ld (onPtr_a (ldSl_of (x := q) h3.ld ?_)))
      refine ixK_at (h3.own.rd.some_ (by omega)) (by omega) (by omega) ?_
      rw [Int.toNat_natCast]
      refine ldB_of (x := B[m]) (h3.at_ (by simp [hlb])) ?_
      refine ixK_at (hR3.own.rd.some_ (by omega)) (by omega) (by omega) ?_
      rw [Int.toNat_natCast]
      have hx : (mix (resz B n) (resz [] n) m)[m]? = some ((mix (resz B n) (resz [] n) m)[m]'(by omega)) := List.getElem?_eq_getElem _
      refine hR3.own.st0 (i := m) (y := B[m]) hx rfl fun w3 ho hg3 hs3 => ?_
      rw [i64_in (by omega)]
      have hy : (resz B n)[m]? = some B[m] := by rw [resz_get, if_pos hlt, List.getElem?_eq_getElem hlb]; rfl
      rw [mix_set (by simp) (by simp; omega) hy] at ho
      have hc3 : Chg (fun k => q1.blk = some k) w2.drew w3 := Chg.of_grown hg3 fun k hk => hk
      refine hI _ _ ⟨m + 1, by simp, by omega, by omega, ⟨hR3.blk.chg hc3 fun e => hR3.ne _ e rfl, ho⟩, h3.keep hc3 (fun e => ?_) (fun k hk e => ?_), ?_⟩ (by simp; omega)
      · have := (hR3.own.lt g e).1
        omega
      · have h1' := (hR3.own.lt k e).1
        have h2'' := (h.own.lt k hk).2
        omega
      · exact hB2.drew.grown hg3 (by have := hB2.size; exact this) fun k hk => (hR3.own.lt k hk).1
    · refine cond_f (by simp; omega) (hend ?_)
      obtain rfl : m = B.length := by omega
      refine List.ext_getElem? fun j => ?_
      by_cases hj : j < n
      · rw [mix_get (by simp) (by simp; omega)]
        split
        · rfl
        · rw [resz_get, resz_get, if_pos hj, if_pos hj, List.getElem?_eq_none (l := B) (by omega)]
          rfl
      · rw [List.getElem?_eq_none (by omega), List.getElem?_eq_none (by simp; omega)]
  · refine cond_f (by simp; omega) (hend ?_)
    obtain rfl : m = n := by omega
    have := mix_all (ys := resz B m) (xs := resz [] m) (by simp)
    rwa [resz_length] at this
theorem rNear_spec (h : RefM w base g q B) (hl : 1 ≤ B.length ∧ B.length ≤ 1000) (col : Int) {K : Int → World → Prop} (hK : K (nearB B col) w) : c_phosphorref15_Stops_near (some ⟨g, 0, none⟩) col w K := by
  refine call_phosphorref15_Stops_near _ _ ?_
  unfold sh_phosphorref15_Stops_near
  have hqn := h.own.rd.n
  unfold nearB at hK
  refine cond_of (fun h0 => ?_) fun h0 => ?_
  · have h0 := of_decide_eq_true h0
    rw [show min (max col 0) ((B.length : Int) - 1) = 0 by omega] at hK
    exact hK
  · have h0 := of_decide_eq_false h0
    refine onPtr_a (ldSl_of (x := q) h.ld ?_)
    refine cond_of (fun h1 => ?_) fun h1 => ?_
    · have h1 := of_decide_eq_true h1
      rw [show min (max col 0) ((B.length : Int) - 1) = (q.n : Int) - 1 by omega] at hK
      refine onPtr_a (ldSl_of (x := q) h.ld ?_)
      rw [i64_in (by omega)]
      exact hK
    · have h1 := of_decide_eq_false h1
      rw [show min (max col 0) ((B.length : Int) - 1) = col by omega] at hK
      exact hK
theorem rAll_spec (h : RefM w base g q B) (hl : B.length ≤ 1000) {K : Slc → World → Prop}
    (hK : ∀ r w', Own E_int w' w.heap.size r (keysI B) → Below w.heap.size w w' → K r w') : c_phosphorref15_Stops_All (some ⟨g, 0, none⟩) w K := by
  refine call_phosphorref15_Stops_All _ ?_
  unfold sh_phosphorref15_Stops_All
  have hqn := h.own.rd.n
  refine loopP_rule (fun (s : Slc × Int × Unit) w2 => ∃ m : Nat, s.2.1 = m ∧ m ≤ B.length ∧ Own E_int w2 w.heap.size s.1 (keysI (B.take m)) ∧ Below w.heap.size w w2)
    (fun s => B.length - s.2.1.toNat) ⟨0, rfl, Nat.zero_le _, by simpa [keysI, keysB, keysF] using Own.nil E_int w w.heap.size, Below.refl _ _⟩ ?_
  rintro ⟨r, i, u⟩ w2 ⟨m, hi, hm, ho, hB2⟩ I hI
  dsimp only at hi ho ⊢
  subst hi
  have h2 := h.ext hB2
  refine onPtr_a (ldSl_of (x := q) h2.ld ?_)
  by_cases hlt : m < B.length
  · refine cond_t (by simp; omega) (onPtr_a (ldSl_of (x := q) h2.ld ?_))
    refine ixK_at (h2.own.rd.some_ (by omega)) (by omega) (by omega) ?_
    rw [Int.toNat_natCast]
    refine ldB_of (x := B[m]) (h2.at_ (by simp [hlt])) ?_
    have htk : B.take (m + 1) = B.take m ++ [B[m]] := by rw [List.take_succ_eq_append_getElem hlt]
    have hkl := keys_le (B.take m)
    have hle : (B.take m).length = m := by simp; omega
    have hlen : (keysI (B.take m)).length ≤ 1000 := by unfold keysI; rw [List.length_map]; omega
    rw [i64_in (by omega)]
    refine cond_of (fun hb => ?_) fun hb => ?_
    · refine snoc_own (E := E_int) sT_sl_int ho rfl hB2.size (by rw [by_sl_int]; omega) (by unfold maxLen; omega) fun r' w3 ho3 hc3 hr3 => ?_
      refine hI _ _ ⟨m + 1, by simp, by omega, ?_, hB2.trans (hc3.below hB2.size fun i hi e => by have := (ho.lt i e).1; omega)⟩ (by simp; omega)
      have e : keysI (B.take (m + 1)) = keysI (B.take m) ++ [(m : Int)] := by
        unfold keysI keysB
        rw [htk, keysF_snoc, hb, hle]
        simp
      rw [e]
      exact ho3
    · refine hI _ _ ⟨m + 1, by simp, by omega, ?_, hB2⟩ (by simp; omega)
      have e : keysI (B.take (m + 1)) = keysI (B.take m) := by
        unfold keysI keysB
        rw [htk, keysF_snoc, hb]
        simp
      rw [e]
      exact ho
  · refine cond_f (by simp; omega) ?_
    rw [List.take_of_length_le (by omega)] at ho
    exact hK _ _ ho hB2
theorem rNext_spec (h : RefM w base g q B) (hl : 1 ≤ B.length ∧ B.length ≤ 1000) (col n : Int) (hnm : n ≤ 9223372036854775807) {K : Int → World → Prop} (hK : K (nextB B col n) w) : c_phosphorref15_Stops_Next (some ⟨g, 0, none⟩) col n w K := by
  refine call_phosphorref15_Stops_Next _ _ _ ?_
  unfold sh_phosphorref15_Stops_Next
  have hqn := h.own.rd.n
  refine joinP_of fun J1 hJ1 => ?_
  refine joinP_of fun J3 hJ3 => ?_
  have hnear : (n < 1 ∨ inB B col = false) → ∀ b, b = true → J3 (b, ()) w := fun hc b hb => hJ3 _ _ (cond_t hb (rNear_spec h hl col (by unfold nextB at hK; rwa [if_pos hc] at hK)))
  refine cond_of (fun hn => hnear (.inl (of_decide_eq_true hn)) _ rfl) fun hn => ?_
  have hn := of_decide_eq_false hn
  refine cond_of (fun h0 => hnear (.inr (by have h0 : col < 0 := of_decide_eq_true h0; unfold inB; rw [decide_eq_false (by omega)]; rfl)) _ rfl) fun h0 => ?_
  have h0 := of_decide_eq_false h0
  refine onPtr_a (ldSl_of (x := q) h.ld ?_)
  cases hi : inB B col with
  | false => exact hnear (.inr hi) _ (by unfold inB at hi; simp at hi ⊢; omega)
  | true =>
    obtain ⟨c, rfl, hc⟩ := inB_nat hi
    refine hJ3 _ _ (cond_f (by simp; omega) (hJ1 _ _ ?_))
    rw [next_eq (by omega) hi] at hK
    unfold keysI at hK
    rw [map_filter1, keys_drop] at hK
    rw [i64_in (by omega)]
    refine loopP_rule (fun (s : Int × Int × Unit) w2 => w2 = w ∧ ∃ k : Nat, s.2.1 = k ∧ k ≤ B.length ∧ 1 ≤ s.1 ∧ s.1 ≤ n ∧ nth ((keysF ((c : Int) + 1) (B.drop (c + 1))).map (·.1)) n ((B.length : Int) - 1) = nth ((keysF (k : Int) (B.drop k)).map (·.1)) s.1 ((B.length : Int) - 1))
      (fun s => B.length - s.2.1.toNat) ⟨rfl, c + 1, by simp, by omega, by show 1 ≤ n; omega, Int.le_refl _, rfl⟩ ?_
    rintro ⟨m, i, u⟩ _ ⟨rfl, k, hki, hk, hm1, hmn, hsc⟩ I hI
    dsimp only at hki hm1 hmn hsc ⊢
    subst hki
    refine onPtr_a (ldSl_of (x := q) h.ld ?_)
    by_cases hlt : k < B.length
    · refine cond_t (by simp; omega) (onPtr_a (ldSl_of (x := q) h.ld ?_))
      refine ixK_at (h.own.rd.some_ (by omega)) (by omega) (by omega) ?_
      rw [Int.toNat_natCast]
      refine ldB_of (x := B[k]) (h.at_ (by simp [hlt])) ?_
      rw [List.drop_eq_getElem_cons hlt, keysF] at hsc
      rw [i64_in (x := (k : Int) + 1) (by omega), i64_in (x := m - 1) (by omega)]
      refine cond_of (fun hb => ?_) fun hb => ?_
      · rw [hb, if_pos rfl, List.map_cons, nth_cons _ _ _ hm1] at hsc
        refine cond_of (fun hz => ?_) fun hz => ?_
        · have hz : m - 1 = 0 := by simpa using hz
          rw [if_pos (by omega)] at hsc
          rw [hsc] at hK
          exact hK
        · have hz : ¬ m - 1 = 0 := by simpa using hz
          rw [if_neg (by omega)] at hsc
          exact hI _ _ ⟨rfl, k + 1, by simp, by omega, by show 1 ≤ m - 1; omega, by show m - 1 ≤ n; omega, hsc⟩ (by simp; omega)
      · rw [hb, if_neg (by simp)] at hsc
        exact hI _ _ ⟨rfl, k + 1, by simp, by omega, hm1, hmn, hsc⟩ (by simp; omega)
    · refine cond_f (by simp; omega) (onPtr_a (ldSl_of (x := q) h.ld ?_))
      rw [List.drop_of_length_le (show B.length ≤ k by omega)] at hsc
      rw [hsc] at hK
      rw [i64_in (by omega), hqn]
      exact hK
theorem rBack_spec (h : RefM w base g q B) (hl : 1 ≤ B.length ∧ B.length ≤ 1000) (col n : Int) (hnm : n ≤ 9223372036854775807) {K : Int → World → Prop} (hK : K (backB B col n) w) : c_phosphorref15_Stops_Back (some ⟨g, 0, none⟩) col n w K := by
  refine call_phosphorref15_Stops_Back _ _ _ ?_
  unfold sh_phosphorref15_Stops_Back
  have hqn := h.own.rd.n
  refine joinP_of fun J1 hJ1 => ?_
  refine joinP_of fun J3 hJ3 => ?_
  have hnear : (n < 1 ∨ inB B col = false) → ∀ b, b = true → J3 (b, ()) w := fun hc b hb => hJ3 _ _ (cond_t hb (rNear_spec h hl col (by unfold backB at hK; rwa [if_pos hc] at hK)))
  refine cond_of (fun hn => hnear (.inl (of_decide_eq_true hn)) _ rfl) fun hn => ?_
  have hn := of_decide_eq_false hn
  refine cond_of (fun h0 => hnear (.inr (by have h0 : col < 0 := of_decide_eq_true h0; unfold inB; rw [decide_eq_false (by omega)]; rfl)) _ rfl) fun h0 => ?_
  have h0 := of_decide_eq_false h0
  refine onPtr_a (ldSl_of (x := q) h.ld ?_)
  cases hi : inB B col with
  | false => exact hnear (.inr hi) _ (by unfold inB at hi; simp at hi ⊢; omega)
  | true =>
    obtain ⟨c, rfl, hc⟩ := inB_nat hi
    refine hJ3 _ _ (cond_f (by simp; omega) (hJ1 _ _ ?_))
    rw [back_eq (by omega) hi] at hK
    unfold keysI at hK
    rw [List.filter_reverse, map_filter1, keys_take] at hK
    rw [i64_in (by omega)]
    refine loopP_rule (fun (s : Int × Int × Unit) w2 => w2 = w ∧ ∃ k : Nat, s.2.1 = (k : Int) - 1 ∧ k ≤ B.length ∧ 1 ≤ s.1 ∧ s.1 ≤ n ∧ nth ((keysB (B.take c)).map (·.1)).reverse n 0 = nth ((keysB (B.take k)).map (·.1)).reverse s.1 0)
      (fun s => s.2.1.toNat) ⟨rfl, c, rfl, by omega, by show 1 ≤ n; omega, Int.le_refl _, rfl⟩ ?_
    rintro ⟨m, i, u⟩ _ ⟨rfl, k, hki, hk, hm1, hmn, hsc⟩ I hI
    dsimp only at hki hm1 hmn hsc ⊢
    subst hki
    by_cases hlt : 1 < k
    · obtain ⟨j, rfl⟩ : ∃ j, k = j + 1 := ⟨k - 1, by omega⟩
      rw [show ((j + 1 : Nat) : Int) - 1 = j by omega]
      refine cond_t (by simp; omega) (onPtr_a (ldSl_of (x := q) h.ld ?_))
      refine ixK_at (h.own.rd.some_ (by omega)) (by omega) (by omega) ?_
      rw [Int.toNat_natCast]
      refine ldB_of (x := B[j]) (h.at_ (List.getElem?_eq_getElem _)) ?_
      have hle : (B.take j).length = j := by simp; omega
      rw [List.take_succ_eq_append_getElem (by omega)] at hsc
      unfold keysB at hsc
      rw [keysF_snoc, hle] at hsc
      rw [i64_in (x := (j : Int) - 1) (by omega), i64_in (x := m - 1) (by omega)]
      refine cond_of (fun hb => ?_) fun hb => ?_
      · rw [hb, if_pos rfl, List.map_append, List.reverse_append] at hsc
        rw [show (List.map (fun x : Int × Unit => x.1) [((0 : Int) + (j : Int), ())]).reverse = [(j : Int)] by simp, List.singleton_append, nth_cons _ _ _ hm1] at hsc
        refine cond_of (fun hz => ?_) fun hz => ?_
        · have hz : m - 1 = 0 := by simpa using hz
          rw [if_pos (by omega)] at hsc
          have hK' := hK
          unfold keysB at hK'
          rw [hsc] at hK'
          exact hK'
        · have hz : ¬ m - 1 = 0 := by simpa using hz
          rw [if_neg (by omega)] at hsc
          exact hI _ _ ⟨rfl, j, rfl, by omega, by show 1 ≤ m - 1; omega, by show m - 1 ≤ n; omega, hsc⟩ (by simp; omega)
      · rw [hb, if_neg (by simp), List.append_nil] at hsc
        exact hI _ _ ⟨rfl, j, rfl, by omega, hm1, hmn, hsc⟩ (by simp; omega)
    · refine cond_f (by simp; omega) ?_
      have hz : nth ((keysB (B.take k)).map (·.1)).reverse m 0 = 0 := by
        have hsm : ∀ x ∈ ((keysB (B.take k)).map (·.1)).reverse, x = 0 := fun x hx => by
          obtain ⟨⟨a, u⟩, hp, rfl⟩ := List.mem_map.1 (List.mem_reverse.1 hx)
          obtain ⟨j, rfl, hj⟩ := mem_keysB.1 hp
          have := (List.getElem?_eq_some_iff.1 hj).1
          simp at this ⊢
          omega
        unfold nth
        cases hx : (((keysB (B.take k)).map (·.1)).reverse)[(m - 1).toNat]? with
        | none => rfl
        | some x => exact hsm x (List.mem_of_getElem? hx)
      rw [hsc, hz] at hK
      exact hK
end
end Go.Proofs.Ytpadlibcalomnaa
