/- The document's Text. -/
import Derived.Test.YtpadlibcalomnaaDoorK10
set_option linter.unusedVariables false
namespace Go.Proofs.YtpadlibcalomnaaDoor
open Go.Vc Go.RowKit
set_option maxRecDepth 400000
section
variable {w : World}
theorem cat44_le : ∀ (l : List (List UInt8)) (n : Nat), (∀ x ∈ l, x.length ≤ n) → (cat44 l).length ≤ l.length * (n + 1)
  | [], n, _ => by simp [cat44]
  | x :: l, n, h => by
    have h1 := cat44_le l n fun y hy => h y (by simp [hy])
    have h2 := h x (by simp)
    rw [cat44_cons, List.length_append, List.length_cons, List.length_cons, Nat.add_mul]
    omega
theorem cat_items {L : List Int} (hm : mayL L = true) {n : Nat} (hn : n ≤ 22) : (cat44 ((List.range n).flatMap (itemI L))).length ≤ 506 := by
  obtain ⟨h1, h2⟩ := items_len hm n hn
  have := cat44_le _ 22 h2
  omega
/-- What stands so far. -/
def preL (L : List Int) (n : Nat) : List UInt8 := cat44 ((List.range n).flatMap (itemI L))
theorem preL_succ (L : List Int) (n : Nat) : preL L (n + 1) = preL L n ++ cat44 (itemI L n) := by
  unfold preL
  rw [range_item, cat44_app]
theorem item_eq {L : List Int} {n : Nat} (h : L[n]?.getD 0 = firstL[n]?.getD 0) : itemI L n = [] := by unfold itemI; rw [if_pos h]
theorem item_ne {L : List Int} {n : Nat} (h : ¬ L[n]?.getD 0 = firstL[n]?.getD 0) : itemI L n = [mkI n (L[n]?.getD 0)] := by unfold itemI; rw [if_neg h]
theorem cat_one (x : List UInt8) : cat44 [x] = 44 :: x := by simp [cat44]
/-- A sign. -/
theorem rsgn_item {L : List Int} {g f : Nat} (hm : mayL L = true) {j : Nat} (hj : j < 4) {w2 : World} (hk : KR w2 g L) (hf : KR w2 f firstL) {J : ByteArray × Unit → World → Prop} (hJ : ∀ w3, Below w2.heap.size w2 w3 → J (strB (preL L (j + 1)), ()) w3) :
    ldI .u8 ((⟨g, 0, none⟩ : Addr).add j) w2 fun t11 => ldI .u8 ((⟨f, 0, none⟩ : Addr).add j) w2 fun t13 => cond (t11 != t13)
      (((((strB (preL L j)).size + (strB [44, chs.getD j 0, 61]).size : Nat) : Int) ≤ 9223372036854775807) ∧ ldI .u8 ((⟨g, 0, none⟩ : Addr).add j) w2 fun t18 =>
        nw ty_uint8 [(.int .u8 t18)] w2 fun t19 w27 => runK1 PG (convert ty_sl_uint8 ty_string (.slice (some t19) 1 1)) Kind.string w27 fun (t20 : ByteArray) w28 =>
        ((((strB (preL L j) ++ strB [44, chs.getD j 0, 61]).size + t20.size : Nat) : Int) ≤ 9223372036854775807) ∧ J (((strB (preL L j) ++ strB [44, chs.getD j 0, 61]) ++ t20), ()) w28)
      (J (strB (preL L j), ()) w2) := by
  have hc : ∀ {M : List Int} {b : Nat}, KR w2 b M → w2.cell? ((⟨b, 0, none⟩ : Addr).add j) = some (.int .u8 (M[j]?.getD 0)) := fun h => by
    have := h.cell (j := j) (by omega)
    rw [add_mk, Nat.zero_add, this]
    unfold cellK
    rw [if_pos hj]
  have hl : (preL L j).length ≤ 506 := cat_items hm (by omega)
  obtain ⟨x, hx⟩ : ∃ x, L[j]?.getD 0 = x := ⟨_, rfl⟩
  have hck := hc hk
  rw [hx] at hck
  refine ldI_of hck (ldI_of (hc hf) (cond_of (fun h => ?_) fun h => ?_))
  · have h : ¬ x = firstL[j]?.getD 0 := by simpa using h
    have hb : 0 ≤ x ∧ x < 256 := by
      have := may_at hm (i := j) (by omega)
      unfold fieldOk at this
      rw [if_pos hj, hx] at this
      unfold signOk at this
      simp only [Bool.or_eq_true, Bool.and_eq_true, decide_eq_true_eq] at this
      omega
    refine ⟨by rw [strB_size, strB_size]; simp; omega, ldI_of hck (one_byte (b := u8 x) (by unfold u8; simp; omega) fun w3 hB3 => ⟨by rw [strB_app, strB_size, strB_size]; simp; omega, ?_⟩)⟩
    have := hJ w3 hB3
    rw [preL_succ, item_ne (by rw [hx]; exact h), cat_one, hx] at this
    rw [strB_app, strB_app]
    unfold mkI at this
    rw [if_pos hj] at this
    simpa using this
  · have h : x = firstL[j]?.getD 0 := by simpa using h
    have := hJ w2 (Below.refl _ _)
    rw [preL_succ, item_eq (by rw [hx]; exact h)] at this
    simpa [cat44] using this
theorem itoa_pos {x : Int} (h : 0 ≤ x) : Lib.itoa x = Lib.decDigits x.toNat := by unfold Lib.itoa; rw [if_neg (by omega)]
theorem itoa_neg {x : Int} (h : x < 0) : Lib.itoa x = 45 :: Lib.decDigits (-x).toNat := by
  unfold Lib.itoa
  rw [if_pos h]
  congr 2
  omega
theorem dec_le {u : Nat} (h : u ≤ 9223372036854775807) : (Lib.decDigits u).length ≤ 20 := by
  have := itoa_len (n := (u : Int)) (by omega) (by omega)
  rwa [itoa_pos (by omega), Int.toNat_natCast] at this
theorem rText_spec {k : T_keys_Keys} {K : ByteArray → World → Prop} (hK : ∀ w', Below w.heap.size w w' → K (strB (textL (toL k))) w') : c_phosphorref19_Text k w K := by
  refine call_phosphorref19_Text _ ?_
  unfold sh_phosphorref19_Text
  refine nwK fun w1 hk1 hB1 hs1 => ?_
  refine ldS_of (x := k) hk1.cellsT (rMay_spec fun w2 hB2 => ?_)
  obtain ⟨L, hL⟩ : ∃ L, toL k = L := ⟨_, rfl⟩
  have hLl : L.length = 22 := by rw [← hL]; rfl
  have hk2 := hk1.ext hB2
  have hB12 := hB1.trans (hB2.mono (by omega))
  rw [hL] at hk2 hK ⊢
  have toK : ∀ {w' : World}, KR w' w.heap.size L → KR w' w.heap.size (toL k) := fun h => by rw [hL]; exact h
  cases hm : mayL L with
  | false =>
    refine cond_t rfl ?_
    have := hK w2 hB12
    unfold textL at this
    rw [if_neg (by rw [hm]; simp)] at this
    exact this
  | true =>
  have htxt : textL L = joinC (itemsL L) := by unfold textL; rw [if_pos hm]
  refine cond_f rfl (rFirst_spec fun w3 hB3 => ?_)
  have hk3 := hk2.ext hB3
  have hB13 := hB12.trans (hB3.mono hB12.size)
  have hgl : w.heap.size < w3.heap.size := by have := hB2.size; have := hB3.size; omega
  refine nwZ fun w4 hf4 hB4 hs4 => ?_
  refine hf4.stAll fun w5 hf5 hc5 hs5 => ?_
  rw [list22 first_len] at hf5
  have hk5 : KR w5 w.heap.size L := (hk3.ext hB4).chg hc5 (by omega)
  have hB15 : Below w.heap.size w w5 := (hB13.trans (hB4.mono hB13.size)).trans (hc5.below (by have := hB13.size; omega) fun i hi e => by have := hB13.size; omega)
  have hsz5 : w3.heap.size < w5.heap.size := by omega
  have e0 : (⟨#[]⟩ : ByteArray) = strB (preL L 0) := rfl
  have s0 : (⟨#[44, 97, 61]⟩ : ByteArray) = strB [44, chs.getD 0 0, 61] := rfl
  have s1 : (⟨#[44, 116, 61]⟩ : ByteArray) = strB [44, chs.getD 1 0, 61] := rfl
  have s2 : (⟨#[44, 111, 61]⟩ : ByteArray) = strB [44, chs.getD 2 0, 61] := rfl
  have s3 : (⟨#[44, 100, 61]⟩ : ByteArray) = strB [44, chs.getD 3 0, 61] := rfl
  refine joinP_of fun J1 hJ1 => ?_
  rw [e0, s0]
  refine rsgn_item hm (by omega) hk5 hf5 fun w6 hB6 => hJ1 _ _ ?_
  have hk6 := hk5.ext hB6
  have hf6 := hf5.ext hB6
  have hB16 := hB15.trans (hB6.mono hB15.size)
  refine joinP_of fun J2 hJ2 => ?_
  rw [s1]
  refine rsgn_item hm (by omega) hk6 hf6 fun w7 hB7 => hJ2 _ _ ?_
  have hk7 := hk6.ext hB7
  have hf7 := hf6.ext hB7
  have hB17 := hB16.trans (hB7.mono hB16.size)
  refine joinP_of fun J3 hJ3 => ?_
  rw [s2]
  refine rsgn_item hm (by omega) hk7 hf7 fun w8 hB8 => hJ3 _ _ ?_
  have hk8 := hk7.ext hB8
  have hf8 := hf7.ext hB8
  have hB18 := hB17.trans (hB8.mono hB17.size)
  refine joinP_of fun J4 hJ4 => ?_
  rw [s3]
  refine rsgn_item hm (by omega) hk8 hf8 fun w9 hB9 => hJ4 _ _ ?_
  have hk9 := hk8.ext hB9
  have hf9 := hf8.ext hB9
  have hB19 := hB18.trans (hB9.mono hB18.size)
  refine loopP_rule (fun (s : ByteArray × Int × Unit) w10 => ∃ i : Nat, s.2.1 = i ∧ i ≤ 17 ∧ s.1 = strB (preL L (if i = 17 then 22 else 4 + i)) ∧ KR w10 w.heap.size L ∧ KR w10 w3.heap.size firstL ∧ Below w.heap.size w w10) (fun s => 17 - s.2.1.toNat)
    ⟨0, rfl, by omega, rfl, hk9, hf9, hB19⟩ ?_
  rintro ⟨q, i, u⟩ w10 ⟨j, hi, hj, hq, hk10, hf10, hB10⟩ I hI
  dsimp only at hi hq ⊢
  subst hi hq
  by_cases hlt : j < 17
  · refine cond_t (by simp; omega) ?_
    rw [if_neg (by omega)]
    refine joinP_of fun J6 hJ6 => ?_
    obtain ⟨z, hz⟩ : ∃ z, L[20]?.getD 0 = z := ⟨_, rfl⟩
    have hzb : -1073741824 ≤ z ∧ z < 1073741824 := by
      have := may_at hm (i := 20) (by omega)
      unfold fieldOk near at this
      rw [if_neg (by omega), if_pos rfl, hz] at this
      simpa using this
    have hzc : ∀ {w' : World}, KR w' w.heap.size L → w'.cell? ((⟨w.heap.size, 0, none⟩ : Addr).add 20) = some (.int .i64 z) := fun h => by
      have := h.cell (j := 20) (by omega)
      rw [add_mk, Nat.zero_add, this, hz]
      rfl
    have hlen : ∀ n, n ≤ 22 → (preL L n).length ≤ 506 := fun n hn => cat_items hm hn
    have hz0 : firstL[20]?.getD 0 = 0 := rfl
    -- the number at this place
    have hnum : ∀ (w12 : World) (n : Nat), n = (if j = 16 then 21 else 4 + j) → KR w12 w.heap.size L → KR w12 w3.heap.size firstL → Below w.heap.size w w12 →
        ldS T_keys_Keys.rep ⟨w.heap.size, 0, none⟩ w12.drew fun t89 =>
        ldS T_keys_Keys.rep ⟨w3.heap.size, 0, none⟩ w12.drew fun t92 =>
        c_phosphorref19_get t89 (j : Int) w12.drew fun t91 w13 =>
        cellsAt w13 ⟨w3.heap.size, 0, none⟩ (T_keys_Keys.rep.cells t92) ∧
        c_phosphorref19_get t92 (j : Int) w13 fun t94 w14 =>
        cond (t91 != t94)
          (((((strB (preL L n)).size + (⟨#[44]⟩ : ByteArray).size : Nat) : Int) ≤ 9223372036854775807) ∧
           slS (⟨#[113, 102, 115, 118, 105, 73, 112, 109, 120, 121, 119, 104, 88, 89, 114, 99, 67]⟩ : ByteArray) (some (j : Int)) (some (IntKind.i64.wrap ((j : Int) + (1 : Int)))) fun t101 =>
           (((((strB (preL L n)) ++ (⟨#[44]⟩ : ByteArray)).size + t101.size : Nat) : Int) ≤ 9223372036854775807) ∧
           ((((((strB (preL L n)) ++ (⟨#[44]⟩ : ByteArray)) ++ t101).size + (⟨#[61]⟩ : ByteArray).size : Nat) : Int) ≤ 9223372036854775807) ∧
           ldS T_keys_Keys.rep ⟨w.heap.size, 0, none⟩ w14.drew fun t104 =>
           c_phosphorref19_get t104 (j : Int) w14.drew fun t106 w15 =>
           c_phosphorref19_decimal t106 w15 fun t107 w16 =>
           (((((((strB (preL L n)) ++ (⟨#[44]⟩ : ByteArray)) ++ t101) ++ (⟨#[61]⟩ : ByteArray)).size + t107.size : Nat) : Int) ≤ 9223372036854775807) ∧
           I ((((((strB (preL L n)) ++ (⟨#[44]⟩ : ByteArray)) ++ t101) ++ (⟨#[61]⟩ : ByteArray)) ++ t107), (IntKind.i64.wrap ((j : Int) + (1 : Int))), ()) w16)
          (I ((strB (preL L n)), (IntKind.i64.wrap ((j : Int) + (1 : Int))), ()) w14) := by
      intro w12 n hn hk12 hf12 hB12'
      have hnp : n = numPos j := by rw [hn]; unfold numPos; split <;> omega
      have hp := numPos_lt hlt
      refine ldS_of (x := k) (toK hk12.drew).cellsT (ldS_of (x := ofL firstL) hf12.drew.cells ?_)
      refine get_spec hlt fun w13 hB13' => ?_
      rw [hL]
      have hk13 := hk12.drew.ext hB13'
      have hf13 := hf12.drew.ext hB13'
      have hB13a : Below w.heap.size w w13 := hB12'.drew.trans (hB13'.mono hB12'.size)
      refine ⟨hf13.cells, get_spec hlt fun w14 hB14' => ?_⟩
      rw [list22 first_len]
      have hk14 := hk13.ext hB14'
      have hf14 := hf13.ext hB14'
      have hB14a := hB13a.trans (hB14'.mono hB13a.size)
      have hw : IntKind.i64.wrap ((j : Int) + (1 : Int)) = ((j + 1 : Nat) : Int) := by rw [i64_in (by omega)]; simp
      rw [hw]
      have hnext : ∀ (w16 : World) (s : ByteArray), KR w16 w.heap.size L → KR w16 w3.heap.size firstL → Below w.heap.size w w16 → s = strB (preL L (n + 1)) → I (s, ((j + 1 : Nat) : Int), ()) w16 := by
        intro w16 s h1 h2 h3 hs
        refine hI _ _ ⟨j + 1, rfl, by omega, ?_, h1, h2, h3⟩ (by simp; omega)
        have e : n + 1 = if j + 1 = 17 then 22 else 4 + (j + 1) := by rw [hn]; split <;> split <;> omega
        rw [hs, e]
      refine cond_of (fun h => ?_) fun h => ?_
      · have h : ¬ L[numPos j]?.getD 0 = firstL[numPos j]?.getD 0 := by simpa using h
        have hl := hlen n (by rw [hnp]; omega)
        obtain ⟨c, hc1, _, hc2⟩ := num_at hlt
        have hlb : (⟨#[113, 102, 115, 118, 105, 73, 112, 109, 120, 121, 119, 104, 88, 89, 114, 99, 67]⟩ : ByteArray) = strB numsB := rfl
        have ec : (⟨#[44]⟩ : ByteArray) = strB [44] := rfl
        have ee : (⟨#[61]⟩ : ByteArray) = strB [61] := rfl
        rw [hlb, ec, ee]
        refine ⟨by rw [strB_size, strB_size]; simp; omega, slS_of (l := j) (h := j + 1) (.inr rfl) (.inr rfl) (by omega) (by show j + 1 ≤ 17; omega) ?_⟩
        have hsl : (numsB.take (j + 1)).drop j = [c] := by
          have hjl : j < numsB.length := hlt
          rw [List.getElem?_eq_getElem hjl] at hc1
          rw [List.take_succ_eq_append_getElem hjl, List.drop_left' (by rw [List.length_take]; omega), Option.some.inj hc1]
        rw [hsl]
        have hx := may_at hm (i := numPos j) hp.1
        have h20 : numPos j ≠ 20 := by unfold numPos; split <;> omega
        unfold fieldOk at hx
        rw [if_neg hp.2, if_neg h20] at hx
        simp only [Bool.and_eq_true, decide_eq_true_eq] at hx
        refine ⟨by rw [strB_app, strB_size, strB_size]; simp; omega, by rw [strB_app, strB_app, strB_size, strB_size]; simp; omega, ?_⟩
        refine ldS_of (x := k) (toK hk14.drew).cellsT (get_spec hlt fun w15 hB15' => ?_)
        rw [hL]
        have hk15 := hk14.drew.ext hB15'
        have hf15 := hf14.drew.ext hB15'
        have hB15a : Below w.heap.size w w15 := hB14a.drew.trans (hB15'.mono hB14a.size)
        have hit : itemI L n = [c :: 61 :: Lib.decDigits (L[numPos j]?.getD 0).toNat] := by
          rw [hnp, item_ne h]
          unfold mkI
          rw [if_neg hp.2, hc2, itoa_pos hx.1]
        obtain ⟨v, hv⟩ : ∃ v : Nat, L[numPos j]?.getD 0 = v := ⟨(L[numPos j]?.getD 0).toNat, by omega⟩
        rw [hv] at hx hit ⊢
        rw [Int.toNat_natCast] at hit
        refine decimal_spec v (.inl (by omega)) fun w16 hB16' => ?_
        have hd := dec_le (u := v) (by omega)
        refine ⟨by rw [strB_app, strB_app, strB_app, strB_size, strB_size]; simp; omega, ?_⟩
        refine hnext _ _ (hk15.ext hB16') (hf15.ext hB16') (hB15a.trans (hB16'.mono hB15a.size)) ?_
        rw [preL_succ, hit, cat_one, strB_app, strB_app, strB_app, strB_app]
        simp
      · have h : L[numPos j]?.getD 0 = firstL[numPos j]?.getD 0 := by simpa using h
        refine hnext _ _ hk14 hf14 hB14a ?_
        rw [preL_succ, item_eq (by rw [hnp]; exact h)]
        simp [cat44]
    -- the depth, below nought
    have hJ6' : ∀ (w11 : World) (n : Nat) (b : Bool), KR w11 w.heap.size L → KR w11 w3.heap.size firstL → Below w.heap.size w w11 → (b = true → j = 16 ∧ z < 0 ∧ n = 20) → (b = false → n = if j = 16 then 21 else 4 + j) →
        (j = 16 → b = decide (z < 0)) → J6 (strB (preL L n), ()) w11 := by
      intro w11 n b hk11 hf11 hB11 hbt hbf hbz
      refine hJ6 _ _ (joinP_of fun J7 hJ7 => joinP_of fun J8 hJ8 => ?_)
      have hgo : J8 (b, ()) w11 := by
        refine hJ8 _ _ ?_
        cases hb : b with
        | true =>
          obtain ⟨h16, hz1, hn20⟩ := hbt hb
          have hl := hlen n (by omega)
          have ez : (⟨#[44, 122, 61, 45]⟩ : ByteArray) = strB [44, 122, 61, 45] := rfl
          rw [ez]
          refine cond_t rfl ⟨by rw [strB_size, strB_size]; simp; omega, ldI_of (hzc hk11) ?_⟩
          have hw : IntKind.i64.wrap ((0 : Int) - z) = (((-z).toNat : Nat) : Int) := by rw [i64_in (by omega)]; omega
          rw [hw]
          refine decimal_spec _ (.inl (by omega)) fun w18 hB18' => ?_
          have hd := dec_le (u := (-z).toNat) (by omega)
          refine ⟨by rw [strB_app, strB_size, strB_size]; simp; omega, hJ7 _ _ ?_⟩
          have e : (strB (preL L n) ++ strB [44, 122, 61, 45]) ++ strB (Lib.decDigits (-z).toNat) = strB (preL L 21) := by
            rw [hn20, preL_succ L 20, item_ne (by rw [hz, hz0]; omega), cat_one, hz, strB_app, strB_app]
            unfold mkI
            rw [if_neg (by omega), itoa_neg hz1]
            congr 1
            simp [chs]
          dsimp only
          rw [e]
          exact hnum w18 21 (by rw [if_pos h16]) (hk11.ext hB18') (hf11.ext hB18') (hB11.trans (hB18'.mono hB11.size))
        | false => exact cond_f rfl (hJ7 _ _ (hnum w11 n (hbf hb) hk11 hf11 hB11))
      by_cases h16 : j = 16
      · refine cond_t (by subst h16; rfl) (ldI_of (hzc hk11) ?_)
        have := hbz h16
        rw [this] at hgo
        exact hgo
      · refine cond_f (by simp; omega) ?_
        cases hb : b with
        | true => exact absurd (hbt hb).1 h16
        | false => rw [hb] at hgo; exact hgo
    refine joinP_of fun J9 hJ9 => ?_
    by_cases h16 : j = 16
    · refine cond_t (by subst h16; rfl) (ldI_of (hzc hk10) (hJ9 _ _ (cond_of (fun h => ?_) fun h => ?_)))
      · have h : z > 0 := of_decide_eq_true h
        have hl := hlen (4 + j) (by omega)
        have ez : (⟨#[44, 122, 61]⟩ : ByteArray) = strB [44, 122, 61] := rfl
        rw [ez]
        refine ⟨by rw [strB_size, strB_size]; simp; omega, ldI_of (hzc hk10) ?_⟩
        have hw : z = ((z.toNat : Nat) : Int) := by omega
        rw [hw]
        refine decimal_spec _ (.inl (by omega)) fun w18 hB18' => ?_
        have hd := dec_le (u := z.toNat) (by omega)
        refine ⟨by rw [strB_app, strB_size, strB_size]; simp; omega, ?_⟩
        have e : (strB (preL L (4 + j)) ++ strB [44, 122, 61]) ++ strB (Lib.decDigits z.toNat) = strB (preL L 21) := by
          rw [show 4 + j = 20 by omega, preL_succ L 20, item_ne (by rw [hz, hz0]; omega), cat_one, hz, strB_app, strB_app]
          unfold mkI
          rw [if_neg (by omega), itoa_pos (by omega)]
          congr 1
          simp [chs]
        rw [e]
        exact hJ6' w18 21 false (hk10.ext hB18') (hf10.ext hB18') (hB10.trans (hB18'.mono hB10.size)) (fun e => by cases e) (fun _ => by rw [if_pos h16]) fun _ => (decide_eq_false (by omega)).symm
      · have h : ¬ z > 0 := of_decide_eq_false h
        by_cases hz1 : z < 0
        · exact hJ6' w10 (4 + j) true hk10 hf10 hB10 (fun _ => ⟨h16, hz1, by omega⟩) (fun e => by cases e) fun _ => (decide_eq_true hz1).symm
        · have e : preL L (4 + j) = preL L 21 := by
            rw [show 4 + j = 20 by omega, preL_succ L 20, item_eq (by rw [hz, hz0]; omega)]
            simp [cat44]
          rw [e]
          exact hJ6' w10 21 false hk10 hf10 hB10 (fun e => by cases e) (fun _ => by rw [if_pos h16]) fun _ => (decide_eq_false hz1).symm
    · refine cond_f (by simp; omega) (hJ9 _ _ (cond_f rfl ?_))
      exact hJ6' w10 (4 + j) false hk10 hf10 hB10 (fun e => by cases e) (fun _ => by rw [if_neg h16]) fun h => absurd h h16
  · refine cond_f (by simp; omega) ?_
    obtain rfl : j = 17 := by omega
    rw [if_pos rfl]
    have hKw := hK w10 hB10
    rw [htxt] at hKw
    have hp : preL L 22 = cat44 (itemsL L) := rfl
    rw [hp]
    by_cases he : itemsL L = []
    · rw [he] at hKw ⊢
      exact cond_t (by rw [show (⟨#[]⟩ : ByteArray) = strB [] from rfl, strB_toList, strB_toList]; rfl) hKw
    · rw [cat44_join _ he]
      refine cond_f ?_ ?_
      · rw [show (⟨#[]⟩ : ByteArray) = strB [] from rfl, strB_toList, strB_toList]
        rfl
      · refine slS_of (l := 1) (h := (44 :: joinC (itemsL L)).length) (.inr rfl) (.inl ⟨rfl, rfl⟩) (by simp) (Nat.le_refl _) ?_
        rw [List.take_length, List.drop_succ_cons, List.drop_zero]
        exact hKw
end
end Go.Proofs.YtpadlibcalomnaaDoor
