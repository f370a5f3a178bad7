/- The machine on a stream of stored blocks. No program in sight but Ch. -/
import Derived.Test.YteffnkpplhcomaaB16
namespace Go.Proofs.Yteffnkpplhcomaa
open Go.Vc Go.RowKit
set_option maxRecDepth 400000

theorem peek_at {B xs tail : List UInt8} {k : Nat} {x : UInt8} (h : B.drop k = x :: xs) : peekN B (8 * k) 8 = x.toNat ∧ k < B.length ∧ B.drop (k + 1) = xs := by
  have hk : k < B.length := by
    have := congrArg List.length h
    rw [List.length_drop, List.length_cons] at this
    omega
  have h2 := List.drop_eq_getElem_cons hk
  rw [h] at h2
  injection h2 with h3 h4
  exact ⟨by rw [peekN_byte B k hk, h3], hk, h4.symm⟩

theorem run_bytes {most : Nat} {B tail : List UInt8} : ∀ (xs : List UInt8) (k : Nat) (c : Cfg), B.drop k = xs ++ tail → c.mode = 2 → c.left = xs.length → c.hist.length + xs.length ≤ most →
    Ch most B c (8 * k) ({ c with left := 0, hist := c.hist ++ xs } : Cfg).behind (8 * (k + xs.length))
  | [], k, c, h, hm, hl, _ => by
    have hl : c.left = 0 := hl
    have hs : step1 most B (8 * k) c = .next c.behind (8 * k) := by
      rw [step1, if_neg (by omega), stepN, if_neg (by omega), if_neg (by omega), if_pos hm, stepByte, if_pos hl]
    have e : ({ c with left := 0, hist := c.hist ++ [] } : Cfg) = c := by
      cases c; simp at hl ⊢; exact hl.symm
    rw [e]
    exact .step hs (.refl _ _)
  | x :: xs, k, c, h, hm, hl, hmost => by
    obtain ⟨h1, h2, h3⟩ := peek_at (tail := []) (xs := xs ++ tail) h
    rw [List.length_cons] at hl hmost
    have hs : step1 most B (8 * k) c = .next { c with left := c.left - 1, hist := c.hist ++ [x] } (8 * k + 8) := by
      rw [step1, if_neg (by omega), stepN, if_neg (by omega), if_neg (by omega), if_pos hm, stepByte, if_neg (by omega), if_neg (by omega), if_neg (by omega), h1, UInt8.ofNat_toNat]
    refine .step hs ?_
    have ih := run_bytes (most := most) xs (k + 1) { c with left := c.left - 1, hist := c.hist ++ [x] } h3 hm (by show c.left - 1 = _; omega) (by simp; omega)
    rw [show 8 * k + 8 = 8 * (k + 1) by omega, List.length_cons, show k + (xs.length + 1) = k + 1 + xs.length by omega]
    have e : c.hist ++ [x] ++ xs = c.hist ++ x :: xs := by simp
    simp only [e] at ih
    exact ih

theorem xor16 {n : Nat} (h : n ≤ 65535) : n ^^^ (65535 - n) = 65535 := by
  apply Nat.eq_of_testBit_eq
  intro i
  rw [Nat.testBit_xor]
  by_cases hi : i < 16
  · have : (65535 - n).testBit i = !n.testBit i := by
      have := Nat.testBit_two_pow_sub_succ (x := n) (n := 16) (by omega) i
      rw [show 2 ^ 16 - (n + 1) = 65535 - n by omega] at this
      rw [this, decide_eq_true hi, Bool.true_and]
    rw [this]
    have h2 : (65535 : Nat).testBit i = true := by
      rw [show 65535 = 2 ^ 16 - 1 by rfl, Nat.testBit_two_pow_sub_one, decide_eq_true hi]
    rw [h2]
    cases n.testBit i <;> rfl
  · have p : 2 ^ 16 ≤ 2 ^ i := Nat.pow_le_pow_right (by decide) (by omega)
    rw [Nat.testBit_lt_two_pow (by omega), Nat.testBit_lt_two_pow (by omega), Nat.testBit_lt_two_pow (by omega)]
    rfl

/-- A stored block. -/
theorem run_block {most : Nat} {B xs tail : List UInt8} {last k : Nat} {c : Cfg} (h : B.drop k = headS last xs.length ++ (xs ++ tail)) (hla : last ≤ 1) (hm : c.mode = 0) (hn : xs.length ≤ 65535) (hmost : c.hist.length + xs.length ≤ most) :
    Ch most B c (8 * k) { c with mode := if last = 1 then 5 else 0, last := last % 2 == 1, left := 0, hist := c.hist ++ xs } (8 * (k + 5 + xs.length)) := by
  have h0 : B.drop k = UInt8.ofNat last :: (UInt8.ofNat (xs.length % 256) :: UInt8.ofNat (xs.length / 256) :: UInt8.ofNat (255 - xs.length % 256) :: UInt8.ofNat (255 - xs.length / 256) :: (xs ++ tail)) := h
  obtain ⟨p0, l0, d1⟩ := peek_at (tail := []) h0
  obtain ⟨p1, l1, d2⟩ := peek_at (tail := []) d1
  obtain ⟨p2, l2, d3⟩ := peek_at (tail := []) d2
  obtain ⟨p3, l3, d4⟩ := peek_at (tail := []) d3
  obtain ⟨p4, l4, d5⟩ := peek_at (tail := []) d4
  rw [UInt8.toNat_ofNat'] at p0 p1 p2 p3 p4
  have v0 : peekN B (8 * k) 3 = last := by
    have := peekN_mod B (8 * k) 3 8 (by decide)
    rw [p0] at this
    omega
  have v1 : peekN B (8 * k + 8) 16 = xs.length := by
    rw [show 16 = 8 + 8 by rfl, peekN_add, show 8 * k + 8 = 8 * (k + 1) by omega, p1, show 8 * (k + 1) + 8 = 8 * (k + 1 + 1) by omega, p2]
    omega
  have v2 : peekN B (8 * k + 8 + 16) 16 = 65535 - xs.length := by
    rw [show 16 = 8 + 8 by rfl, peekN_add, show 8 * k + 8 + (8 + 8) = 8 * (k + 1 + 1 + 1) by omega, p3, show 8 * (k + 1 + 1 + 1) + 8 = 8 * (k + 1 + 1 + 1 + 1) by omega, p4]
    omega
  have s1 : step1 most B (8 * k) c = .next { c with last := last % 2 == 1, mode := 1 } (8 * k + 3) := by
    rw [step1, if_neg (by omega), stepN, if_pos hm, stepHead, if_neg (by omega), v0]
    dsimp only
    rw [if_pos (by omega)]
  have up : up8 (8 * k + 3) = 8 * k + 8 := by unfold up8; omega
  have s2 : step1 most B (8 * k + 3) { c with last := last % 2 == 1, mode := 1 } = .next { c with last := last % 2 == 1, mode := 2, left := xs.length } (8 * (k + 5)) := by
    rw [step1, if_neg (by decide : ¬ (1 : Nat) = 5), stepN, if_neg (by decide : ¬ (1 : Nat) = 0), if_pos rfl, stepStored, up, if_neg (by omega), v1, v2, xor16 hn, if_neg (by decide)]
    congr 1
  refine .step s1 (.step s2 ?_)
  have hb := run_bytes (most := most) (B := B) (tail := tail) xs (k + 5) { c with last := last % 2 == 1, mode := 2, left := xs.length } d5 rfl rfl hmost
  have e : ({ c with last := last % 2 == 1, mode := if last = 1 then 5 else 0, left := 0, hist := c.hist ++ xs } : Cfg) = ({ c with last := last % 2 == 1, mode := 2, left := 0, hist := c.hist ++ xs } : Cfg).behind := by
    unfold Cfg.behind
    dsimp only
    congr 1
    have : last = 0 ∨ last = 1 := by omega
    rcases this with rfl | rfl <;> rfl
  rw [e]
  exact hb

theorem run_store {most : Nat} {B tail : List UInt8} (m : Nat) : ∀ (bs : List UInt8) (k : Nat) (c : Cfg), bs.length ≤ m → B.drop k = storeL bs ++ tail → c.mode = 0 → c.hist.length + bs.length ≤ most →
    ∃ c', Ch most B c (8 * k) c' (8 * (k + (storeL bs).length)) ∧ c'.mode = 5 ∧ c'.hist = c.hist ++ bs := by
  have short : ∀ (bs : List UInt8) (k : Nat) (c : Cfg), bs.length ≤ 65535 → B.drop k = storeL bs ++ tail → c.mode = 0 → c.hist.length + bs.length ≤ most →
    ∃ c', Ch most B c (8 * k) c' (8 * (k + (storeL bs).length)) ∧ c'.mode = 5 ∧ c'.hist = c.hist ++ bs := by
    intro bs k c hs h hm hmost
    have es : storeL bs = headS 1 bs.length ++ bs := by rw [storeL, dif_pos hs]
    rw [es] at h ⊢
    rw [List.append_assoc] at h
    have := run_block (last := 1) h (by decide) hm hs hmost
    refine ⟨{ c with mode := 5, last := 1 % 2 == 1, left := 0, hist := c.hist ++ bs }, ?_, rfl, rfl⟩
    rw [List.length_append, show (headS 1 bs.length).length = 5 from rfl, ← Nat.add_assoc]
    exact this
  induction m with
  | zero => intro bs k c hb; exact short bs k c (by omega)
  | succ m ih =>
    intro bs k c hb h hm hmost
    by_cases hs : bs.length ≤ 65535
    · exact short bs k c hs h hm hmost
    · have es : storeL bs = headS 0 65535 ++ bs.take 65535 ++ storeL (bs.drop 65535) := by rw [storeL, dif_neg hs]
      rw [es] at h ⊢
      have htl : (bs.take 65535).length = 65535 := by rw [List.length_take]; omega
      have h1 : B.drop k = headS 0 (bs.take 65535).length ++ (bs.take 65535 ++ (storeL (bs.drop 65535) ++ tail)) := by
        rw [h, htl]; simp only [List.append_assoc]
      have r1 := run_block (most := most) (last := 0) h1 (by decide) hm (by omega) (by omega)
      rw [htl] at r1
      have hd : B.drop (k + 5 + 65535) = storeL (bs.drop 65535) ++ tail := by
        rw [Nat.add_assoc, ← List.drop_drop, h, List.append_assoc, List.drop_append_of_le_length (by simp [headS]; omega)]
        rw [List.drop_of_length_le (by simp [headS]; omega), List.nil_append]
      obtain ⟨c', hc', hm', hh'⟩ := ih (bs.drop 65535) (k + 5 + 65535) { c with mode := 0, last := 0 % 2 == 1, left := 0, hist := c.hist ++ bs.take 65535 } (by simp; omega) hd rfl (by
        show (c.hist ++ bs.take 65535).length + _ ≤ _
        simp; omega)
      refine ⟨c', ?_, hm', ?_⟩
      · have e : k + 5 + 65535 + (storeL (bs.drop 65535)).length = k + (headS 0 65535 ++ bs.take 65535 ++ storeL (bs.drop 65535)).length := by
          rw [List.length_append, List.length_append, htl, show (headS 0 65535).length = 5 from rfl]; omega
        rw [← e]
        exact r1.trans hc'
      · rw [hh']
        show c.hist ++ bs.take 65535 ++ _ = _
        rw [List.append_assoc, List.take_append_drop]

end Go.Proofs.Yteffnkpplhcomaa
