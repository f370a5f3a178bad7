/- Characters as bytes: what utf's Is, Encode and the reference's none, Encode come to. -/
import Derived.Test.YtgejghejnibocaaDoorL3
import Derived.Laws.BitsAllLaws
namespace Go.Proofs.YtgejghejnibocaaDoor
open Go.Vc Go.RowKit

def byteE : El UInt8 where
  cells b := [.int .u8 b.toNat]
  t := 5
  k := 1
  pos := by decide
  len _ := rfl
  one x v hv := by
    simp only [List.mem_cons, List.mem_nil_iff, or_false] at hv
    rcases hv with rfl
    rfl
def runeE : El Int where
  cells r := [.int .i32 r]
  t := 21
  k := 1
  pos := by decide
  len _ := rfl
  one x v hv := by
    simp only [List.mem_cons, List.mem_nil_iff, or_false] at hv
    rcases hv with rfl
    rfl
noncomputable def slT34 : SlT Tryd.prog byteE 34 where
  ht := by kernel_rfl
  i := (Tryd.prog.info? 5).getD default
  hi := by kernel_rfl
  z := .int .u8 0
  hz := by kernel_rfl
  hs := by kernel_rfl
  hzs := rfl
theorem by34 : slT34.i.bytes = 1 := by kernel_rfl

/-! ### What is reckoned -/
def validR (r : Int) : Bool := decide (0 ≤ r) && decide (r ≤ 1114111) && (decide (r < 55296) || decide (r > 57343))
def contL : Nat → Int → List UInt8
  | 0, _ => []
  | m + 1, v => u8 (128 + v / 64 ^ m % 64) :: contL m v
def encV (v : Int) : List UInt8 :=
  if v < 128 then [u8 v] else if v < 2048 then u8 (192 + v / 64) :: contL 1 v else if v < 65536 then u8 (224 + v / 4096) :: contL 2 v else u8 (240 + v / 262144) :: contL 3 v
def fixR (r : Int) : Int := if validR r = true then r else 65533
def encR (r : Int) : List UInt8 := encV (fixR r)
theorem validR_fix (r : Int) : validR (fixR r) = true := by
  unfold fixR
  split
  · assumption
  · decide
theorem validR_iff {r : Int} : validR r = true ↔ 0 ≤ r ∧ r ≤ 1114111 ∧ (r < 55296 ∨ r > 57343) := by
  unfold validR
  rw [Bool.and_eq_true, Bool.and_eq_true, Bool.or_eq_true, decide_eq_true_iff, decide_eq_true_iff, decide_eq_true_iff, decide_eq_true_iff, and_assoc]

theorem Is_spec {r : Int} {w : World} {K : Bool → World → Prop} (hK : K (validR r) w) : c_utf_Is r w K := by
  refine call_utf_Is _ ?_
  unfold sh_utf_Is
  have no : validR r ≠ true → K false w := fun h => by
    rwa [Bool.eq_false_iff.2 h] at hK
  refine cond_of (fun h1 => cond_of (fun h2 => cond_of (fun h3 => ?_) (fun h3 => ?_)) (fun h2 => ?_)) (fun h1 => ?_)
  · have h1 := of_decide_eq_true h1
    have h2 := of_decide_eq_true h2
    have h3 := of_decide_eq_true h3
    rwa [validR_iff.2 ⟨h1, h2, .inl h3⟩] at hK
  · have h1 := of_decide_eq_true h1
    have h2 := of_decide_eq_true h2
    have h3 := of_decide_eq_false h3
    by_cases h4 : r > 57343
    · rw [validR_iff.2 ⟨h1, h2, .inr h4⟩] at hK
      rwa [decide_eq_true h4]
    · rw [decide_eq_false h4]
      exact no fun h => by have := validR_iff.1 h; omega
  · have h2 := of_decide_eq_false h2
    exact no fun h => by have := validR_iff.1 h; omega
  · have h1 := of_decide_eq_false h1
    exact no fun h => by have := validR_iff.1 h; omega

theorem rnone_spec {r : Int} {w : World} {K : Bool → World → Prop} (hK : K (!validR r) w) : c_phosphorref10_none r w K := by
  refine call_phosphorref10_none _ ?_
  unfold sh_phosphorref10_none
  have no : validR r ≠ true → K true w := fun h => by
    rwa [Bool.eq_false_iff.2 h] at hK
  have yes : validR r = true → K false w := fun h => by
    rwa [h] at hK
  refine cond_of (fun h1 => ?_) (fun h1 => cond_of (fun h2 => cond_of (fun h3 => ?_) (fun h3 => ?_)) (fun h2 => ?_))
  · have h1 := of_decide_eq_true h1
    exact no fun h => by have := validR_iff.1 h; omega
  · have h2 := of_decide_eq_true h2
    have h3 := of_decide_eq_true h3
    exact no fun h => by have := validR_iff.1 h; omega
  · have h1 := of_decide_eq_false h1
    have h2 := of_decide_eq_true h2
    have h3 := of_decide_eq_false h3
    by_cases h4 : r > 1114111
    · rw [decide_eq_true h4]; exact no fun h => by have := validR_iff.1 h; omega
    · rw [decide_eq_false h4]; exact yes (validR_iff.2 (by omega))
  · have h1 := of_decide_eq_false h1
    have h2 := of_decide_eq_false h2
    by_cases h4 : r > 1114111
    · rw [decide_eq_true h4]; exact no fun h => by have := validR_iff.1 h; omega
    · rw [decide_eq_false h4]; exact yes (validR_iff.2 (by omega))

/-! ### Bits -/
theorem wrap32_id {x : Int} (h : -2147483648 ≤ x ∧ x ≤ 2147483647) : IntKind.i32.wrap x = x := by
  rw [IntKind.wrap_i32]; omega
theorem ofInt32 (a : Nat) (ha : a < 2147483648) : (BitVec.ofInt 32 (a : Int)).toNat = a := by
  rw [BitVec.toNat_ofInt]
  omega
theorem or32 (a b : Nat) (ha : a < 2147483648) (hb : b < 2147483648) : bitsR .or .i32 (a : Int) (b : Int) = ((a ||| b : Nat) : Int) := by
  show IntKind.i32.wrap ((BitVec.ofInt 32 (a : Int) ||| BitVec.ofInt 32 (b : Int)).toNat : Int) = _
  rw [BitVec.toNat_or, ofInt32 a ha, ofInt32 b hb]
  have := Nat.or_lt_two_pow (n := 31) (x := a) (y := b) (by omega) (by omega)
  exact wrap32_id (by omega)
theorem and32 (a b : Nat) (ha : a < 2147483648) (hb : b < 2147483648) : bitsR .and .i32 (a : Int) (b : Int) = ((a &&& b : Nat) : Int) := by
  show IntKind.i32.wrap ((BitVec.ofInt 32 (a : Int) &&& BitVec.ofInt 32 (b : Int)).toNat : Int) = _
  rw [BitVec.toNat_and, ofInt32 a ha, ofInt32 b hb]
  have := Nat.and_lt_two_pow (n := 31) a (y := b) (by omega)
  exact wrap32_id (by omega)
theorem or32_add (i : Nat) (x y : Int) (hx0 : 0 ≤ x) (hy0 : 0 ≤ y) (hx : x.toNat % 2 ^ i = 0) (hy : y.toNat < 2 ^ i) (hx1 : x < 2147483648) (hy1 : y < 2147483648) : bitsR .or .i32 x y = x + y := by
  obtain ⟨a, rfl⟩ := Int.eq_ofNat_of_zero_le hx0
  obtain ⟨b, rfl⟩ := Int.eq_ofNat_of_zero_le hy0
  rw [or32 a b (by omega) (by omega), nat_join i a b (by simpa using hx) (by simpa using hy)]
  simp
theorem and32_63 (x : Int) (hx0 : 0 ≤ x) (hx1 : x < 2147483648) : bitsR .and .i32 x 63 = x % 64 := by
  obtain ⟨a, rfl⟩ := Int.eq_ofNat_of_zero_le hx0
  have := and32 a 63 (by omega) (by omega)
  rw [show ((63 : Nat) : Int) = 63 from rfl] at this
  rw [this, nat_mask6]
  omega
theorem shr6 {m : Nat} (hm : m ≤ 3) {v : Int} (_hv : 0 ≤ v) : v.fdiv (2 ^ (min (IntKind.i64.wrap (6 * (m : Int))).toNat IntKind.i32.bits)) = v / 64 ^ m := by
  rw [wrap64_id (by omega)]
  have e1 : (6 * (m : Int)).toNat = 6 * m := by omega
  have e2 : min (6 * m) IntKind.i32.bits = 6 * m := by
    show min (6 * m) 32 = _
    omega
  have e3 : (2 : Int) ^ (6 * m) = 64 ^ m := by rw [Int.pow_mul]; rfl
  rw [e1, e2, e3]
  exact Int.fdiv_eq_ediv_of_nonneg _ (Int.le_of_lt (Int.pow_pos (by decide)))

/-- The head of a character's bytes. -/
theorem lead_or {m : Nat} (hm : m ≤ 3) {v : Int} (hv : 0 ≤ v) (hb : v < [128, 2048, 65536, 2097152].getD m 0) :
    bitsR .or .i32 ([0, 192, 224, 240].getD m 0) (v / 64 ^ m) = ([0, 192, 224, 240].getD m 0) + v / 64 ^ m := by
  match m, hm with
  | 0, _ =>
    simp only [List.getD_cons_zero] at hb ⊢
    simp only [Int.pow_zero, Int.ediv_one]
    exact or32_add 7 0 v (by omega) hv (by decide) (by omega) (by omega) (by omega)
  | 1, _ =>
    simp only [List.getD_cons_succ, List.getD_cons_zero] at hb ⊢
    exact or32_add 5 192 _ (by omega) (by omega) (by decide) (by omega) (by omega) (by omega)
  | 2, _ =>
    simp only [List.getD_cons_succ, List.getD_cons_zero] at hb ⊢
    exact or32_add 4 224 _ (by omega) (by omega) (by decide) (by omega) (by omega) (by omega)
  | 3, _ =>
    simp only [List.getD_cons_succ, List.getD_cons_zero] at hb ⊢
    exact or32_add 3 240 _ (by omega) (by omega) (by decide) (by omega) (by omega) (by omega)

theorem div64_bd (m : Nat) {v : Int} (hv : 0 ≤ v) (hb : v ≤ 1114111) : 0 ≤ v / 64 ^ m ∧ v / 64 ^ m ≤ 1114111 := by
  have hp : (0 : Int) < 64 ^ m := Int.pow_pos (by decide)
  exact ⟨Int.ediv_nonneg hv (Int.le_of_lt hp), Int.le_trans (Int.ediv_le_self _ hv) hb⟩

/-- A byte that is laid for an append. -/
theorem byte_one {w : World} {g : Nat} {x : Int} (h : 0 ≤ x ∧ x < 256) (hb : Blk w g 5 [.int .u8 (IntKind.u8.wrap x)]) : Rd byteE w ⟨some ⟨g, 0, none⟩, 1, 1⟩ [u8 x] := by
  refine rd_one (E := byteE) hb ?_
  show [Value.int .u8 ((u8 x).toNat : Int)] = _
  rw [u8_toNat h.1 h.2, IntWalk.u8_in _ (by omega)]

theorem encV_length (v : Int) : (encV v).length ≤ 4 := by
  unfold encV
  split
  · simp
  · split
    · simp [contL]
    · split <;> simp [contL]

theorem Encode_spec {l : Slc} {xs : List Int} {w : World} {K : Slc → World → Prop} (h : Rd runeE w l xs) (hl : xs.length ≤ 100000)
    (hK : ∀ r w', Own byteE w' w.heap.size r (xs.flatMap encR) → Below w.heap.size w w' → K r w') : c_utf_Encode l w K := by
  refine call_utf_Encode _ ?_
  unfold sh_utf_Encode
  refine loopP_rule (fun (s : Slc × Int × Unit) w2 => ∃ k : Nat, s.2.1 = k ∧ k ≤ xs.length ∧ Own byteE w2 w.heap.size s.1 ((xs.take k).flatMap encR) ∧ ((xs.take k).flatMap encR).length ≤ 4 * k ∧ Below w.heap.size w w2)
    (fun s => xs.length - s.2.1.toNat) ⟨0, rfl, by omega, by simpa using Own.nil _ _ _, by simp, Below.refl _ _⟩ ?_
  rintro ⟨s, i, _⟩ w2 ⟨k, rfl, hk, ho, hlen, hB⟩ I hI
  dsimp only at *
  refine cond_of (fun hlt => ?_) (fun hge => ?_)
  · have hlt := of_decide_eq_true hlt
    rw [h.n] at hlt
    have hkl : k < xs.length := by omega
    obtain ⟨x, hx⟩ : ∃ x, xs[k]? = some x := ⟨xs[k], List.getElem?_eq_getElem hkl⟩
    have htake : xs.take (k + 1) = xs.take k ++ [x] := by
      rw [List.take_add_one, hx]; rfl
    refine (h.ext hB).ix rfl (by omega) (by omega) fun hc => ?_
    have hxs : xs[((k : Int)).toNat]'(by omega) = x := by
      have := List.getElem?_eq_getElem hkl
      rw [hx] at this
      exact (Option.some.inj this).symm
    rw [hxs] at hc
    refine ldI_of (x := x) (by have := hc 0 _ rfl; rwa [add_zero] at this) ?_
    refine joinP_of fun J2 hJ2 => ?_
    -- the character is known
    have main : J2 (fixR x, ()) w2 := hJ2 _ _ (by
      dsimp only
      obtain ⟨hv0, hv1, _⟩ := validR_iff.1 (validR_fix x)
      have henc : encR x = encV (fixR x) := rfl
      generalize fixR x = v at *
      refine joinP_of fun J3 hJ3 => ?_
      -- the head and what follows
      have go : ∀ m : Nat, m ≤ 3 → v < [128, 2048, 65536, 2097152].getD m 0 → encV v = u8 (([0, 192, 224, 240].getD m 0) + v / 64 ^ m) :: contL m v → J3 ((m : Int), [0, 192, 224, 240].getD m 0, ()) w2 := fun m hm hb he => hJ3 _ _ (by
        dsimp only
        rw [shr6 hm hv0, lead_or hm hv0 hb]
        refine ⟨by rw [wrap64_id (by omega)]; omega, ?_⟩
        have hlead : 0 ≤ ([0, 192, 224, 240].getD m 0) + v / 64 ^ m ∧ ([0, 192, 224, 240].getD m 0) + v / 64 ^ m < 256 := by
          match m, hm with
          | 0, _ => simp only [List.getD_cons_zero] at hb ⊢; simp only [Int.pow_zero, Int.ediv_one]; omega
          | 1, _ => simp only [List.getD_cons_succ, List.getD_cons_zero] at hb ⊢; omega
          | 2, _ => simp only [List.getD_cons_succ, List.getD_cons_zero] at hb ⊢; omega
          | 3, _ => simp only [List.getD_cons_succ, List.getD_cons_zero] at hb ⊢; omega
        generalize ([0, 192, 224, 240].getD m 0) + v / 64 ^ m = hd at *
        refine nw_blk fun w3 hb3 hB3 hs3 => ?_
        refine apK_own slT34 (ho.ext hB3) (byte_one hlead hb3) (by have := hB.size; omega) (by rw [by34]; simp only [List.length_cons, List.length_nil]; omega) (by simp only [maxLen, List.length_cons, List.length_nil]; omega) fun r w4 ho4 hg4 hr4 => ?_
        have hB4 : Below w.heap.size w w4 := (hB.trans (hB3.mono hB.size)).grown hg4 (by have := hB.size; omega) fun g hg => ((ho.ext hB3).lt g hg).1
        -- the bytes behind
        refine loopP_rule (fun (s3 : Slc × Int × Unit) w6 => ∃ j : Nat, j ≤ m ∧ s3.2.1 = (j : Int) - 1 ∧ ∃ done : List UInt8, done ++ contL j v = u8 hd :: contL m v ∧ done.length ≤ 4 ∧ Own byteE w6 w.heap.size s3.1 ((xs.take k).flatMap encR ++ done) ∧ Below w.heap.size w w6)
          (fun s3 => (s3.2.1 + 1).toNat) ⟨m, Nat.le_refl _, by rw [wrap64_id (by omega)], [u8 hd], rfl, by simp, ho4, hB4⟩ ?_
        rintro ⟨s3, i3, _⟩ w6 ⟨j, hj, rfl, done, hdone, hdl, ho6, hB6⟩ I4 hI4
        dsimp only at *
        refine cond_of (fun h0 => ?_) (fun h0 => ?_)
        · have h0 := of_decide_eq_true h0
          obtain ⟨j, rfl⟩ : ∃ j', j = j' + 1 := ⟨j - 1, by omega⟩
          have ej : ((j + 1 : Nat) : Int) - 1 = (j : Int) := by omega
          rw [ej] at h0 ⊢
          rw [shr6 (by omega) hv0]
          obtain ⟨hq0, hq1⟩ := div64_bd j hv0 hv1
          rw [and32_63 _ hq0 (by omega), or32_add 6 128 _ (by omega) (by omega) (by decide) (by omega) (by omega) (by omega)]
          refine ⟨by rw [wrap64_id (by omega)]; omega, ?_⟩
          refine nw_blk fun w7 hb7 hB7 hs7 => ?_
          have hdl' : done.length + (contL (j + 1) v).length ≤ 4 := by
            have := congrArg List.length hdone
            rw [List.length_append] at this
            rw [this]
            match m, hm with
            | 0, _ => simp [contL]
            | 1, _ => simp [contL]
            | 2, _ => simp [contL]
            | 3, _ => simp [contL]
          simp only [contL, List.length_cons] at hdl'
          refine apK_own slT34 (ho6.ext hB7) (byte_one (by omega) hb7) (by have := hB6.size; omega) (by rw [by34]; simp only [List.length_append, List.length_cons, List.length_nil]; omega) (by simp only [maxLen, List.length_append, List.length_cons, List.length_nil]; omega) fun r' w8 ho8 hg8 hr8 => ?_
          rw [wrap64_id (by omega)]
          refine hI4 (r', (j : Int) - 1, ()) w8 ⟨j, by omega, rfl, done ++ [u8 (128 + v / 64 ^ j % 64)], by rw [← hdone]; simp [contL], by simp; omega, ?_, ?_⟩ (by simp)
          · rw [← List.append_assoc]; exact ho8
          · exact (hB6.trans (hB7.mono hB6.size)).grown hg8 (by have := hB6.size; omega) fun g hg => ((ho6.ext hB7).lt g hg).1
        · have h0 := of_decide_eq_false h0
          have hj0 : j = 0 := by omega
          subst hj0
          rw [contL, List.append_nil] at hdone
          rw [wrap64_id (by omega)]
          have hfl : (xs.take (k + 1)).flatMap encR = (xs.take k).flatMap encR ++ done := by
            rw [htake, List.flatMap_append, hdone, ← he, ← henc]
            simp
          refine hI (s3, (k : Int) + 1, ()) w6 ⟨k + 1, by simp, by omega, ?_, ?_, hB6⟩ (by simp; omega)
          · rw [hfl]; exact ho6
          · rw [hfl, List.length_append]; omega)
      refine joinP_of fun J5 hJ5 => ?_
      have j5 : ∀ m : Nat, m ≤ 2 → J3 (((m + 1 : Nat) : Int), [0, 192, 224, 240].getD (m + 1) 0, ()) w2 → J5 ((m : Int), [0, 0, 32, 48].getD (m + 1) 0, ()) w2 := fun m hm h3 => hJ5 _ _ (by
        dsimp only
        rw [wrap64_id (by omega)]
        match m, hm with
        | 0, _ => exact h3
        | 1, _ => exact h3
        | 2, _ => exact h3)
      refine joinP_of fun J6 hJ6 => ?_
      refine cond_of (fun h4 => ?_) (fun h4 => cond_of (fun h3 => ?_) (fun h3 => cond_of (fun h2 => ?_) (fun h2 => ?_)))
      · have h4 := of_decide_eq_true h4
        refine hJ6 _ _ (j5 2 (by omega) (go 3 (by omega) (by simp only [List.getD_cons_succ, List.getD_cons_zero]; omega) ?_))
        unfold encV
        rw [if_neg (by omega), if_neg (by omega), if_neg (by omega)]
        rfl
      · have h4 := of_decide_eq_false h4
        have h3 := of_decide_eq_true h3
        refine hJ6 _ _ (j5 1 (by omega) (go 2 (by omega) (by simp only [List.getD_cons_succ, List.getD_cons_zero]; omega) ?_))
        unfold encV
        rw [if_neg (by omega), if_neg (by omega), if_pos (by omega)]
        rfl
      · have h3 := of_decide_eq_false h3
        have h2 := of_decide_eq_true h2
        refine j5 0 (by omega) (go 1 (by omega) (by simp only [List.getD_cons_succ, List.getD_cons_zero]; omega) ?_)
        unfold encV
        rw [if_neg (by omega), if_pos (by omega)]
        rfl
      · have h2 := of_decide_eq_false h2
        refine go 0 (by omega) (by simp only [List.getD_cons_zero]; omega) ?_
        unfold encV
        rw [if_pos (by omega)]
        simp [contL])
    refine Is_spec ?_
    refine cond_of (fun hn => ?_) (fun hn => ?_)
    · have hn : validR x = false := by simpa using hn
      have : fixR x = 65533 := by rw [fixR, if_neg (by rw [hn]; decide)]
      rw [this] at main
      exact main
    · have hn : validR x = true := by simpa using hn
      have : fixR x = x := by rw [fixR, if_pos hn]
      rw [this] at main
      exact main
  · have hge := of_decide_eq_false hge
    rw [h.n] at hge
    have : k = xs.length := by omega
    subst this
    rw [List.take_length] at ho
    exact hK s w2 ho hB

end Go.Proofs.YtgejghejnibocaaDoor
