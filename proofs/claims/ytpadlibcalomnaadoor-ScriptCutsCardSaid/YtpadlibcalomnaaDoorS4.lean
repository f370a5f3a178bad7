/- The document's Quote and Unquote. -/
import Derived.Test.YtpadlibcalomnaaDoorS3
set_option linter.unusedVariables false
namespace Go.Proofs.YtpadlibcalomnaaDoor
open Go.Vc Go.RowKit
set_option maxRecDepth 400000
section
variable {w : World}
theorem q1_flat (l : List UInt8) : (l.flatMap q1).length ≤ 3 * l.length := by
  induction l with
  | nil => simp
  | cons c l ih =>
    have := q1_len c
    rw [List.flatMap_cons, List.length_append, List.length_cons]
    omega
theorem rhex_nib {c : UInt8} : IntKind.u8.wrap ((c.toNat : Int).tdiv (16 : Int)) = ((c.toNat / 16 : Nat) : Int) ∧ ((c.toNat : Int).tmod (16 : Int)) = ((c.toNat % 16 : Nat) : Int) := by
  have h : ∀ n : Nat, n < 256 → IntKind.u8.wrap ((n : Int).tdiv (16 : Int)) = ((n / 16 : Nat) : Int) ∧ ((n : Int).tmod (16 : Int)) = ((n % 16 : Nat) : Int) := by decide +kernel
  exact h c.toNat c.toNat_lt
theorem rQuote_spec {q : Slc} {bs : List UInt8} (hq : Rd E_uint8 w q bs) (hl : bs.length ≤ 100000) {K : ByteArray → World → Prop} (hK : ∀ w', Below w.heap.size w w' → K (strB (quoteL bs)) w') : c_phosphorref26_Quote q w K := by
  refine call_phosphorref26_Quote _ ?_
  unfold sh_phosphorref26_Quote
  have hn := hq.n
  refine cond_of (fun h => ?_) fun h => ?_
  · have h : (q.n : Int) = 0 := by simpa using h
    have e : bs = [] := List.eq_nil_of_length_eq_zero (by omega)
    have := hK w (Below.refl _ _)
    rw [e] at this
    exact this
  have h : ¬ (q.n : Int) = 0 := by simpa using h
  have hne : bs ≠ [] := fun e => by subst e; simp at hn; omega
  refine loopP_rule (fun (s : Slc × Int × Unit) w2 => ∃ i : Nat, s.2.1 = i ∧ i ≤ bs.length ∧ Go.Vc.Own E_uint8 w2 w.heap.size s.1 ((bs.take i).flatMap q1) ∧ Below w.heap.size w w2) (fun s => bs.length - s.2.1.toNat) ⟨0, rfl, by omega, Own.nil _ _ _, Below.refl _ _⟩ ?_
  rintro ⟨r, i, u⟩ w2 ⟨m, hi, hm, ho2, hB2⟩ I hI
  dsimp only at hi ho2 ⊢
  subst hi
  have hq2 := hq.ext hB2
  have hll := q1_flat (bs.take m)
  rw [List.length_take] at hll
  by_cases hlt : m < bs.length
  · refine cond_t (by simp; omega) ?_
    obtain ⟨c, hc, hc'⟩ := get_of (xs := bs) (k := m) hlt
    have hget : ∀ {w3 : World} {J : Int → Prop}, Rd E_uint8 w3 q bs → J c.toNat → ixK q (m : Int) 1 fun a => ldI .u8 a w3 J := fun hq3 hJ => by
      refine hq3.ix (k := 1) rfl (by omega) (by omega) fun hcell => ?_
      rw [hc' _] at hcell
      exact ldI_of (x := (c.toNat : Int)) (by simpa using hcell 0 _ rfl) hJ
    have hts : (bs.take (m + 1)).flatMap q1 = (bs.take m).flatMap q1 ++ q1 c := by
      rw [List.take_succ_eq_append_getElem hlt]
      rw [List.getElem?_eq_getElem hlt] at hc
      rw [Option.some.inj hc, List.flatMap_append, List.flatMap_singleton]
    have hw : IntKind.i64.wrap ((m : Int) + (1 : Int)) = ((m + 1 : Nat) : Int) := by rw [i64_in (by omega)]; simp
    rw [hw]
    have hfine : fineB c = (decide (33 ≤ c) && decide (c ≤ 126) && decide (c ≠ 37)) := rfl
    have e1 : decide ((c.toNat : Int) ≥ 33) = decide ((33 : UInt8) ≤ c) := u8_ge 33 (by omega)
    have e2 : decide ((c.toNat : Int) ≤ 126) = decide (c ≤ (126 : UInt8)) := u8_le 126 (by omega)
    have e3 : ((c.toNat : Int) != 37) = decide (c ≠ 37) := by
      have : ((c.toNat : Int) == 37) = decide (c = 37) := u8_ne 37 (by omega)
      rw [bne, this]
      simp
    refine joinP_of fun J2 hJ2 => ?_
    have hj2 : J2 (fineB c, ()) w2 := by
      refine hJ2 _ _ ?_
      cases hf : fineB c with
      | true =>
        have hq1 : q1 c = [c] := by unfold q1; rw [if_pos hf]
        refine cond_t rfl (hget hq2 (lit_apL (ys := [c]) hB2 ho2 rfl rfl (by simp only [List.length_cons, List.length_nil]; omega) fun r3 w4 hr hB4 => ?_))
        rw [← hq1, ← hts] at hr
        exact hI _ _ ⟨m + 1, rfl, by omega, hr, hB4⟩ (by simp; omega)
      | false =>
        have hq1 : q1 c = [37, hexB.getD (c.toNat / 16) 0, hexB.getD (c.toNat % 16) 0] := by unfold q1; rw [if_neg (by rw [hf]; simp)]
        have hc256 := c.toNat_lt
        refine cond_f rfl (hget hq2.drew ⟨by decide, ixS_of (bs := hexB) rhex_nib.1 (hex_at (by omega)) (hget hq2.drew ⟨by decide, ixS_of (bs := hexB) rhex_nib.2 (hex_at (by omega)) ?_⟩)⟩)
        refine lit_apL (ys := [37, hexB.getD (c.toNat / 16) 0, hexB.getD (c.toNat % 16) 0]) hB2.drew ho2.drew rfl rfl (by simp only [List.length_cons, List.length_nil]; omega) fun r3 w4 hr hB4 => ?_
        rw [← hq1, ← hts] at hr
        exact hI _ _ ⟨m + 1, rfl, by omega, hr, hB4⟩ (by simp; omega)
    rw [hfine] at hj2
    refine hget hq2 ?_
    rw [e1]
    cases h1 : decide ((33 : UInt8) ≤ c) with
    | false => rw [h1, Bool.false_and, Bool.false_and] at hj2; exact hj2
    | true =>
      refine cond_t rfl (hget hq2 ?_)
      rw [e2]
      rw [h1, Bool.true_and] at hj2
      cases h2 : decide (c ≤ (126 : UInt8)) with
      | false => rw [h2, Bool.false_and] at hj2; exact hj2
      | true =>
        refine cond_t rfl (hget hq2 ?_)
        rw [e3]
        rw [h2, Bool.true_and] at hj2
        exact hj2
  · refine cond_f (by simp; omega) ?_
    obtain rfl : m = bs.length := by omega
    rw [List.take_length] at ho2
    refine toStr_spec ho2.rd ?_
    have := hK w2 hB2
    unfold quoteL at this
    rwa [if_neg hne] at this
theorem digit_spec (c : UInt8) {i : Int} (hi : i = c.toNat) {K : Int → World → Prop} (hK : K (hexV c) w) : c_phosphorref26_digit i w K := by
  subst hi
  refine call_phosphorref26_digit _ ?_
  unfold sh_phosphorref26_digit
  have h : ∀ n : Nat, n < 256 → hexV (UInt8.ofNat n) = if 48 ≤ n ∧ n ≤ 57 then IntKind.i64.wrap (IntKind.u8.wrap ((n : Int) - 48)) else if 97 ≤ n ∧ n ≤ 102 then IntKind.i64.wrap ((IntKind.i64.wrap (IntKind.u8.wrap ((n : Int) - 97))) + 10) else -1 := by decide +kernel
  have hv := h c.toNat c.toNat_lt
  rw [UInt8.ofNat_toNat] at hv
  refine joinP_of fun J1 hJ1 => ?_
  have h48 : J1 (decide (48 ≤ c.toNat ∧ c.toNat ≤ 57), ()) w := by
    refine hJ1 _ _ (cond_of (fun h1 => ?_) fun h1 => ?_)
    · rw [hv, if_pos (of_decide_eq_true h1)] at hK
      exact hK
    · have h1 := of_decide_eq_false h1
      rw [if_neg h1] at hv
      refine joinP_of fun J2 hJ2 => ?_
      have h97 : J2 (decide (97 ≤ c.toNat ∧ c.toNat ≤ 102), ()) w := by
        refine hJ2 _ _ (cond_of (fun h2 => ?_) fun h2 => ?_)
        · rw [hv, if_pos (of_decide_eq_true h2)] at hK
          exact hK
        · rw [hv, if_neg (of_decide_eq_false h2)] at hK
          exact hK
      refine cond_of (fun h3 => ?_) fun h3 => ?_
      · have h3 : (97 : Int) ≤ c.toNat := of_decide_eq_true h3
        have : decide (97 ≤ c.toNat ∧ c.toNat ≤ 102) = decide ((c.toNat : Int) ≤ 102) := by rw [decide_eq_decide]; omega
        rwa [this] at h97
      · have h3 : ¬ (97 : Int) ≤ c.toNat := of_decide_eq_false h3
        have : decide (97 ≤ c.toNat ∧ c.toNat ≤ 102) = false := decide_eq_false (by omega)
        rwa [this] at h97
  refine cond_of (fun h3 => ?_) fun h3 => ?_
  · have h3 : (48 : Int) ≤ c.toNat := of_decide_eq_true h3
    have : decide (48 ≤ c.toNat ∧ c.toNat ≤ 57) = decide ((c.toNat : Int) ≤ 57) := by rw [decide_eq_decide]; omega
    rwa [this] at h48
  · have h3 : ¬ (48 : Int) ≤ c.toNat := of_decide_eq_false h3
    have : decide (48 ≤ c.toNat ∧ c.toNat ≤ 57) = false := decide_eq_false (by omega)
    rwa [this] at h48
theorem rUnquote_spec (s : List UInt8) (hl : s.length ≤ 100000) {K : Slc → Int → World → Prop} (hK : ∀ q w', Rd E_uint8 w' q (unqR s).1 → Below w.heap.size w w' → K q (unqR s).2 w') : c_phosphorref26_Unquote (strB s) w K := by
  refine call_phosphorref26_Unquote _ ?_
  unfold sh_phosphorref26_Unquote
  have hempty : (⟨#[37]⟩ : ByteArray) = strB [37] := rfl
  rw [hempty, strB_toList, strB_toList]
  refine cond_of (fun h => ?_) fun h => ?_
  · have h : s = [37] := by simpa using h
    have := hK ⟨none, 0, 0⟩ w
    unfold unqR at this
    rw [if_pos h] at this
    exact this (Rd.nil _ _) (Below.refl _ _)
  have h37 : s ≠ [37] := by simpa using h
  have hbad : ∀ {w' : World}, Below w.heap.size w w' → unqR s = ([], 3) → K ⟨none, 0, 0⟩ 3 w' := fun {w'} hB e => by
    have := hK ⟨none, 0, 0⟩ w'
    rw [e] at this
    exact this (Rd.nil _ _) hB
  have hnone : R s = none → unqR s = ([], 3) := fun e => by
    unfold unqR
    rw [if_neg h37]
    have e' : refF s.length s = _ := e
    rw [e']
  have hsome : ∀ o, R s = some o → unqR s = if o = [] ∨ quoteL o ≠ s then ([], 3) else (o, 0) := fun o e => by
    unfold unqR
    rw [if_neg h37]
    have e' : refF s.length s = _ := e
    rw [e']
  refine loopP_rule (fun (st : Slc × Int × Unit) w3 => ∃ (i : Nat) (pre : List UInt8), st.2.1 = i ∧ i ≤ s.length ∧ Go.Vc.Own E_uint8 w3 w.heap.size st.1 pre ∧ Below w.heap.size w w3 ∧ R s = (R (s.drop i)).map (pre ++ ·) ∧ pre.length ≤ i) (fun st => s.length - st.2.1.toNat)
    ⟨0, [], rfl, by omega, Own.nil _ _ _, Below.refl _ _, by cases h : R s <;> simp [h], Nat.le_refl _⟩ ?_
  rintro ⟨q, i, u⟩ w3 ⟨m, pre, hi, hm, hq3, hB3, hR, hpl⟩ I hI
  dsimp only at hi hq3 ⊢
  subst hi
  by_cases hlt : m < s.length
  case neg =>
    refine cond_f (by simp [strB_size]; omega) ?_
    obtain rfl : m = s.length := by omega
    rw [List.drop_length] at hR
    have hR : R s = some pre := by
      rw [hR]
      show some (pre ++ []) = some pre
      simp
    have hn := hq3.rd.n
    refine cond_of (fun h => ?_) fun h => ?_
    · have h : (q.n : Int) = 0 := by simpa using h
      have e : pre = [] := List.eq_nil_of_length_eq_zero (by omega)
      exact hbad hB3 (by rw [hsome _ hR, if_pos (.inl e)])
    · have h : ¬ (q.n : Int) = 0 := by simpa using h
      have hne : pre ≠ [] := fun e => by subst e; simp at hn; omega
      refine rQuote_spec hq3.rd (by omega) fun w11 hB11 => ?_
      have hB311 := hB3.trans (hB11.mono hB3.size)
      rw [strB_toList]
      refine cond_of (fun h2 => ?_) fun h2 => ?_
      · have h2 : quoteL pre ≠ s := by simpa using h2
        exact hbad hB311 (by rw [hsome _ hR, if_pos (.inr h2)])
      · have h2 : quoteL pre = s := by simpa using h2
        have := hK q w11
        rw [hsome _ hR, if_neg (by rintro (e | e); exact hne e; exact e h2)] at this
        exact this (hq3.ext hB11).rd hB311
  refine cond_t (by simp [strB_size]; omega) ?_
  obtain ⟨c, hc, hdr⟩ := drop_at hlt
  refine ixS_of (k := m) rfl hc ?_
  have e37 : ((c.toNat : Int) == 37) = decide (c = 37) := u8_ne 37 (by omega)
  have hw2 : IntKind.i64.wrap ((m : Int) + (2 : Int)) = ((m + 2 : Nat) : Int) := by rw [i64_in (by omega)]; simp
  have hw1 : IntKind.i64.wrap ((m : Int) + (1 : Int)) = ((m + 1 : Nat) : Int) := by rw [i64_in (by omega)]; simp
  rw [hw1, hw2, bne, e37]
  have happ : ∀ (w4 : World) (j : Nat) (b : UInt8) (v : Int), v = b.toNat → Below w.heap.size w w4 → Go.Vc.Own E_uint8 w4 w.heap.size q pre → m ≤ j → j < s.length → R s = (R (s.drop (j + 1))).map ((pre ++ [b]) ++ ·) →
      nw ty_uint8 [(.int .u8 v)] w4 fun t22 w2 => apK PG #[ty_sl_uint8, ty_sl_uint8] ty_sl_uint8 q (⟨(some t22), 1, 1⟩ : Slc) w2 fun t23 w3 => I (t23, ((j + 1 : Nat) : Int), ()) w3 := by
    intro w4 j b v hv hB4 hq4 hmj hj hRR
    subst hv
    refine lit_apL (ys := [b]) hB4 hq4 rfl rfl (n := 1) (by simp only [List.length_cons, List.length_nil]; omega) fun r w6 hr hB6 => ?_
    refine hI _ _ ⟨j + 1, pre ++ [b], rfl, by omega, hr, hB6, hRR, by simp; omega⟩ (by simp; omega)
  have hmap : ∀ (b : UInt8) (o : Option (List UInt8)), (o.map (b :: ·)).map (pre ++ ·) = o.map ((pre ++ [b]) ++ ·) := fun b o => by cases o <;> simp
  by_cases h : c = 37
  · rw [decide_eq_true h]
    refine cond_f rfl (joinP_of fun J2 hJ2 => ?_)
    rw [h] at hdr
    by_cases h2 : m + 2 < s.length
    · obtain ⟨a, ha, hda⟩ := drop_at (s := s) (i := m + 1) (by omega)
      obtain ⟨b, hb, hdb⟩ := drop_at (s := s) (i := m + 2) h2
      refine cond_f (decide_eq_false (by rw [strB_size]; omega)) ?_
      rw [hdr, hda, hdb, R_esc] at hR
      refine ixS_of (k := m + 1) rfl ha (digit_spec a rfl (cond_of (fun h3 => hbad hB3 (hnone ?_)) fun h3 => ?_))
      · have h3 := of_decide_eq_true h3
        rw [hR, if_pos (.inl h3)]
        rfl
      have h3 := of_decide_eq_false h3
      refine ixS_of (k := m + 2) rfl hb (digit_spec b rfl (cond_of (fun h4 => hbad hB3 (hnone ?_)) fun h4 => ?_))
      · have h4 := of_decide_eq_true h4
        rw [hR, if_pos (.inr h4)]
        rfl
      have h4 := of_decide_eq_false h4
      refine hJ2 _ _ (ixS_of (k := m + 1) rfl ha (ixS_of (k := m + 2) rfl hb (digit_spec a rfl (digit_spec b rfl ?_))))
      rw [mk_sum _ _ (by omega) (by omega), i64_in (x := ((m + 2 : Nat) : Int) + 1) (by omega)]
      rw [if_neg (by omega), hmap] at hR
      have := happ w3.drew (m + 2) (mk a b) _ rfl hB3.drew hq3.drew (by omega) h2 hR
      simpa using this
    · refine cond_t (decide_eq_true (by rw [strB_size]; omega)) (hbad hB3 (hnone ?_))
      rw [hR, hdr, R_sh _ (by rw [List.length_drop]; omega)]
      rfl
  · rw [decide_eq_false h]
    refine cond_t rfl (ixS_of (k := m) rfl hc ?_)
    rw [hdr, R_ne _ h, hmap] at hR
    exact happ w3 m c _ rfl hB3 hq3 (Nat.le_refl _) hlt hR
end
end Go.Proofs.YtpadlibcalomnaaDoor
