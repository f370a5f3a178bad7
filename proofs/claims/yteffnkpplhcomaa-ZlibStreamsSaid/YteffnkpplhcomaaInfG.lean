/- The machine on a stream of the fixed code. -/
import Derived.Test.YteffnkpplhcomaaInfF
namespace Go.Proofs.Yteffnkpplhcomaa
open Go.Vc Go.RowKit
set_option maxRecDepth 400000

theorem lowF : ∀ j, j < 7 → firstK fixedL j + cntK fixedL j = 0 := by decide +kernel
theorem topF : firstK fixedL 7 + cntK fixedL 7 = 24 ∧ firstK fixedL 7 = 0 ∧ offK fixedL 7 = 0 ∧ firstK fixedL 8 + cntK fixedL 8 = 200 ∧ firstK fixedL 8 = 48 ∧ offK fixedL 8 = 24 ∧ firstK fixedL 9 + cntK fixedL 9 = 512 ∧ firstK fixedL 9 = 400 ∧ offK fixedL 9 = 176 := by decide +kernel
section
variable {B : List UInt8} {a : Nat}
theorem readGo_low (n j : Nat) (h : j < 7) : readGo fixedL B a (n + 1) j = if 8 * B.length - a < j then .short else readGo fixedL B a n (j + 1) := by
  rw [readGo, lastF, if_neg (by omega), lowF j h]
  by_cases hl : 8 * B.length - a < j
  · rw [if_pos (by omega), if_pos hl]
  · rw [if_neg (by omega), if_neg hl, if_neg (Nat.not_lt_zero _)]
theorem readF_short (h : 8 * B.length - a < 7) : readT fixedL B a = .short := by
  unfold readT
  rw [readGo_low _ _ (by decide), readGo_low _ _ (by decide), readGo_low _ _ (by decide), readGo_low _ _ (by decide), readGo_low _ _ (by decide), readGo_low _ _ (by decide)]
  rw [readGo, lastF, if_neg (by decide : ¬ 9 < 1 + 1 + 1 + 1 + 1 + 1 + 1)]
  by_cases h1 : 8 * B.length - a < 1
  · rw [if_pos h1]
  by_cases h2 : 8 * B.length - a < 1 + 1
  · rw [if_neg h1, if_pos h2]
  by_cases h3 : 8 * B.length - a < 1 + 1 + 1
  · rw [if_neg h1, if_neg h2, if_pos h3]
  by_cases h4 : 8 * B.length - a < 1 + 1 + 1 + 1
  · rw [if_neg h1, if_neg h2, if_neg h3, if_pos h4]
  by_cases h5 : 8 * B.length - a < 1 + 1 + 1 + 1 + 1
  · rw [if_neg h1, if_neg h2, if_neg h3, if_neg h4, if_pos h5]
  by_cases h6 : 8 * B.length - a < 1 + 1 + 1 + 1 + 1 + 1
  · rw [if_neg h1, if_neg h2, if_neg h3, if_neg h4, if_neg h5, if_pos h6]
  rw [if_neg h1, if_neg h2, if_neg h3, if_neg h4, if_neg h5, if_neg h6, if_pos (by omega)]
theorem readF (h : 7 ≤ 8 * B.length - a) : readT fixedL B a = if msb B a 7 < 24 then .sym (256 + msb B a 7) 7 else if 8 * B.length - a < 8 then .short else if msb B a 8 < 200 then .sym (if msb B a 8 < 192 then msb B a 8 - 48 else 280 + (msb B a 8 - 192)) 8 else if 8 * B.length - a < 9 then .short else .sym (144 + (msb B a 9 - 400)) 9 := by
  obtain ⟨t1, t2, t3, t4, t5, t6, t7, t8, t9⟩ := topF
  unfold readT
  rw [readGo_low _ _ (by decide), readGo_low _ _ (by decide), readGo_low _ _ (by decide), readGo_low _ _ (by decide), readGo_low _ _ (by decide), readGo_low _ _ (by decide)]
  rw [if_neg (by omega), if_neg (by omega), if_neg (by omega), if_neg (by omega), if_neg (by omega), if_neg (by omega)]
  rw [readGo, lastF, if_neg (by decide), if_neg (by omega)]
  have e7 : 1 + 1 + 1 + 1 + 1 + 1 + 1 = 7 := rfl
  rw [e7, t1, t2, t3, sortF_eq, Nat.zero_add, Nat.sub_zero]
  have b8 := peekN_lt B (a + 7) 1
  have b9 := peekN_lt B (a + 8) 1
  have m8 : msb B a 8 = 2 * msb B a 7 + peekN B (a + 7) 1 := rfl
  have m9 : msb B a 9 = 2 * msb B a 8 + peekN B (a + 8) 1 := rfl
  have l9 := msb_lt B a 9
  by_cases h7 : msb B a 7 < 24
  · rw [if_pos h7, if_pos h7, sortF7 _ h7]
  rw [if_neg h7, if_neg h7, readGo, lastF, if_neg (by decide), show 7 + 1 = 8 from rfl]
  by_cases h8 : 8 * B.length - a < 8
  · rw [if_pos (by omega), if_pos h8]
  rw [if_neg (by omega), if_neg h8, t4, t5, t6, sortF_eq]
  by_cases h8' : msb B a 8 < 200
  · rw [if_pos h8', if_pos h8', sortF8 _ (by omega)]
    congr 1
    split <;> split <;> omega
  rw [if_neg h8', if_neg h8', readGo, lastF, if_neg (by decide), show 8 + 1 = 9 from rfl]
  by_cases h9 : 8 * B.length - a < 9
  · rw [if_pos (by omega), if_pos h9]
  rw [if_neg (by omega), if_neg h9, t7, t8, t9, sortF_eq, if_pos (by omega), sortF9 _ (by omega)]

/-- A symbol of the fixed code is read as what it is. -/
theorem read_sym {y : Nat} (hy : y < 288) (hl : a + kN y ≤ 8 * B.length) (h : peekN B a (kN y) = symN y) : readT fixedL B a = .sym y (kN y) := by
  have ek := kN_eq hy
  have hc := codeF_eq y hy
  have h : peekN B a (kN y) = revN (codeF y) (kN y) := by rw [h, symN, hc]
  have b8 := peekN_lt B (a + 7) 1
  have b9 := peekN_lt B (a + 8) 1
  have m8 : msb B a 8 = 2 * msb B a 7 + peekN B (a + 7) 1 := rfl
  have m9 : msb B a 9 = 2 * msb B a 8 + peekN B (a + 8) 1 := rfl
  unfold codeF at h
  by_cases h1 : y < 144
  · rw [if_pos h1] at ek h
    rw [ek] at h hl ⊢
    have hm := msb_peek 8 (48 + y) (by omega) h
    rw [readF (by omega), if_neg (by omega), if_neg (by omega), if_pos (by omega), if_pos (by omega), hm]
    congr 1; omega
  rw [if_neg h1] at ek h
  by_cases h2 : y < 256
  · rw [if_pos h2] at ek h
    rw [ek] at h hl ⊢
    have hm := msb_peek 9 (400 + (y - 144)) (by omega) h
    rw [readF (by omega), if_neg (by omega), if_neg (by omega), if_neg (by omega), if_neg (by omega), hm]
    congr 1; omega
  rw [if_neg h2] at ek h
  by_cases h3 : y < 280
  · rw [if_pos h3] at ek h
    rw [ek] at h hl ⊢
    have hm := msb_peek 7 (y - 256) (by omega) h
    rw [readF (by omega), if_pos (by omega), hm]
    congr 1; omega
  rw [if_neg h3] at ek h
  rw [ek] at h hl ⊢
  have hm := msb_peek 8 (192 + (y - 280)) (by omega) h
  rw [readF (by omega), if_neg (by omega), if_neg (by omega), if_pos (by omega), if_neg (by omega), hm]
  congr 1; omega

theorem run_lit {most : Nat} {c : Cfg} {b : UInt8} (hm : c.mode = 4) (hs : c.sg = fixedL) (hl : a + kN b.toNat ≤ 8 * B.length) (h : peekN B a (kN b.toNat) = symN b.toNat) (hh : c.hist.length < most) :
    step1 most B a c = .next { c with hist := c.hist ++ [b] } (a + kN b.toNat) := by
  have hb := b.toNat_lt
  rw [step1, if_neg (by omega), stepN, if_neg (by omega), if_neg (by omega), if_neg (by omega), if_neg (by omega), stepCode, hs, read_sym (by omega) hl h]
  dsimp only
  rw [if_neg (by omega), if_neg (by omega), if_pos (by omega), if_neg (by omega), UInt8.ofNat_toNat]
theorem run_end {most : Nat} {c : Cfg} (hm : c.mode = 4) (hs : c.sg = fixedL) (hl : a + kN 256 ≤ 8 * B.length) (h : peekN B a (kN 256) = symN 256) :
    step1 most B a c = .next c.behind (a + kN 256) := by
  rw [step1, if_neg (by omega), stepN, if_neg (by omega), if_neg (by omega), if_neg (by omega), if_neg (by omega), stepCode, hs, read_sym (by omega) hl h]
  rfl

/-- What a number of n bits says of the bits of a stream that begins with it. -/
theorem peek_num {p : Nat × Nat} {y : Nat} {W : Nat} (hW : le B = (putN p y).1 + 2 ^ (putN p y).2 * W) (hp : p.1 < 2 ^ p.2) (hy : symN y < 2 ^ kN y) : peekN B p.2 (kN y) = symN y := by
  unfold peekN
  rw [hW]
  show (p.1 + 2 ^ p.2 * symN y + 2 ^ (p.2 + kN y) * W) / 2 ^ p.2 % 2 ^ kN y = symN y
  rw [Nat.pow_add, Nat.mul_assoc, Nat.add_assoc, ← Nat.mul_add, Nat.add_mul_div_left _ _ (Nat.pow_pos (by decide)), Nat.div_eq_of_lt hp, Nat.zero_add, Nat.add_mul_mod_self_left, Nat.mod_eq_of_lt hy]
theorem symN_lt (y : Nat) : symN y < 2 ^ kN y := revN_lt _ _
theorem putN_lt {p : Nat × Nat} (hp : p.1 < 2 ^ p.2) (y : Nat) : (putN p y).1 < 2 ^ (putN p y).2 := by
  show p.1 + 2 ^ p.2 * symN y < 2 ^ (p.2 + kN y)
  have := symN_lt y
  rw [Nat.pow_add]
  have h2 : 2 ^ p.2 * symN y + 2 ^ p.2 ≤ 2 ^ p.2 * 2 ^ kN y := by rw [← Nat.mul_succ]; exact Nat.mul_le_mul_left _ this
  omega
end
/-- A number that goes on. -/
def Goes (p q : Nat × Nat) : Prop := p.2 ≤ q.2 ∧ ∃ W, q.1 = p.1 + 2 ^ p.2 * W
theorem Goes.refl (p : Nat × Nat) : Goes p p := ⟨Nat.le_refl _, 0, by simp⟩
theorem Goes.put (p : Nat × Nat) (y : Nat) : Goes p (putN p y) := ⟨Nat.le_add_right _ _, symN y, rfl⟩
theorem Goes.trans {p q r : Nat × Nat} (h : Goes p q) (h' : Goes q r) : Goes p r := by
  obtain ⟨h1, W, h2⟩ := h
  obtain ⟨h3, V, h4⟩ := h'
  refine ⟨by omega, W + 2 ^ (q.2 - p.2) * V, ?_⟩
  rw [h4, h2, Nat.mul_add, ← Nat.mul_assoc, ← Nat.pow_add, show p.2 + (q.2 - p.2) = q.2 by omega, Nat.add_assoc]
def foldN (p : Nat × Nat) (bs : List UInt8) : Nat × Nat := bs.foldl (fun p b => putN p b.toNat) p
theorem foldN_goes (bs : List UInt8) : ∀ p, Goes p (foldN p bs) := by
  induction bs with
  | nil => intro p; exact Goes.refl p
  | cons b r ih => intro p; exact (Goes.put p b.toNat).trans (ih _)
theorem run_lits {most : Nat} {B : List UInt8} : ∀ (bs : List UInt8) (p : Nat × Nat) (c : Cfg) (W : Nat), le B = (foldN p bs).1 + 2 ^ (foldN p bs).2 * W → (foldN p bs).2 ≤ 8 * B.length → p.1 < 2 ^ p.2 → c.mode = 4 → c.sg = fixedL → c.hist.length + bs.length ≤ most →
    Ch most B c p.2 { c with hist := c.hist ++ bs } (foldN p bs).2
  | [], p, c, W, _, _, _, _, _, _ => by
    have e : ({ c with hist := c.hist ++ [] } : Cfg) = c := by cases c; simp
    rw [e]
    exact .refl _ _
  | b :: bs, p, c, W, hW, hl, hp, hm, hs, hh => by
    rw [List.length_cons] at hh
    have hf : foldN p (b :: bs) = foldN (putN p b.toNat) bs := rfl
    rw [hf] at hW hl ⊢
    obtain ⟨g1, V, g2⟩ := (foldN_goes bs (putN p b.toNat)).trans ⟨Nat.le_refl _, 0, rfl⟩
    have hW2 : ∃ W2, le B = (putN p b.toNat).1 + 2 ^ (putN p b.toNat).2 * W2 := by
      obtain ⟨g1, V, g2⟩ := foldN_goes bs (putN p b.toNat)
      refine ⟨V + 2 ^ ((foldN (putN p b.toNat) bs).2 - (putN p b.toNat).2) * W, ?_⟩
      rw [hW, g2, Nat.mul_add, ← Nat.mul_assoc, ← Nat.pow_add, show (putN p b.toNat).2 + ((foldN (putN p b.toNat) bs).2 - (putN p b.toNat).2) = (foldN (putN p b.toNat) bs).2 by omega, Nat.add_assoc]
    obtain ⟨W2, hW2⟩ := hW2
    have hpk := peek_num hW2 hp (symN_lt _)
    have e2 : (putN p b.toNat).2 = p.2 + kN b.toNat := rfl
    have hst := run_lit (most := most) hm hs (by omega) hpk (by omega)
    refine .step hst ?_
    have ih := run_lits (most := most) bs (putN p b.toNat) { c with hist := c.hist ++ [b] } W hW hl (putN_lt hp _) hm hs (by simp; omega)
    have e : c.hist ++ [b] ++ bs = c.hist ++ b :: bs := by simp
    simp only [e] at ih
    exact ih

/-- The machine on Fixed(bs) and more. -/
theorem run_fixed {most : Nat} {ys tail bs : List UInt8} (h1 : le ys = (fixedN bs).1) (h2 : ys.length = ((fixedN bs).2 + 7) / 8) (hmost : bs.length ≤ most) :
    ∃ c', Ch most (ys ++ tail) cfg0 0 c' (fixedN bs).2 ∧ c'.mode = 5 ∧ c'.hist = bs := by
  have hB : le (ys ++ tail) = (fixedN bs).1 + 2 ^ (fixedN bs).2 * (2 ^ (8 * ys.length - (fixedN bs).2) * le tail) := by
    rw [le_append, h1, pow256, ← Nat.mul_assoc, ← Nat.pow_add, show (fixedN bs).2 + (8 * ys.length - (fixedN bs).2) = 8 * ys.length by omega]
  have hBl : (ys ++ tail).length = ys.length + tail.length := List.length_append
  have hg : Goes (3, 3) (bytesN bs) := foldN_goes bs (3, 3)
  have hg2 : Goes (bytesN bs) (fixedN bs) := Goes.put _ _
  have lt3 : (3 : Nat) < 2 ^ 3 := by decide
  have ltb : (bytesN bs).1 < 2 ^ (bytesN bs).2 := by
    suffices H : ∀ (l : List UInt8) (p : Nat × Nat), p.1 < 2 ^ p.2 → (foldN p l).1 < 2 ^ (foldN p l).2 from H bs (3, 3) lt3
    intro l
    induction l with
    | nil => intro p h; exact h
    | cons b r ih => intro p h; exact ih _ (putN_lt h _)
  have e256 : (fixedN bs).2 = (bytesN bs).2 + kN 256 := rfl
  have hW : ∀ q, Goes q (fixedN bs) → ∃ W, le (ys ++ tail) = q.1 + 2 ^ q.2 * W := by
    rintro q ⟨g1, V, g2⟩
    refine ⟨V + 2 ^ ((fixedN bs).2 - q.2) * (2 ^ (8 * ys.length - (fixedN bs).2) * le tail), ?_⟩
    rw [hB, g2, Nat.mul_add, ← Nat.mul_assoc (2 ^ q.2) (2 ^ _) _, ← Nat.pow_add, show q.2 + ((fixedN bs).2 - q.2) = (fixedN bs).2 by omega, Nat.add_assoc]
  obtain ⟨W3, hW3⟩ := hW (3, 3) (hg.trans hg2)
  have hv : peekN (ys ++ tail) 0 3 = 3 := by
    unfold peekN
    rw [hW3]
    show (3 + 2 ^ 3 * W3) / 2 ^ 0 % 2 ^ 3 = 3
    omega
  have hg1 := hg.1
  have hg21 := hg2.1
  have s1 : step1 most (ys ++ tail) 0 cfg0 = .next { cfg0 with mode := 4, last := true, sg := fixedL, ds := fiveL } 3 := by
    rw [step1, if_neg (show ¬ cfg0.mode = 5 by decide), stepN, if_pos (show cfg0.mode = 0 from rfl), stepHead, if_neg (by have : (3 : Nat) ≤ (bytesN bs).2 := hg1; omega), hv]
    rfl
  obtain ⟨Wb, hWb⟩ := hW (bytesN bs) hg2
  have r1 := run_lits (most := most) (B := ys ++ tail) bs (3, 3) { cfg0 with mode := 4, last := true, sg := fixedL, ds := fiveL } Wb hWb (by show (bytesN bs).2 ≤ _; omega) lt3 rfl rfl (by show 0 + bs.length ≤ most; omega)
  obtain ⟨We, hWe⟩ := hW (fixedN bs) (Goes.refl _)
  have hpk := peek_num (B := ys ++ tail) (p := bytesN bs) (y := 256) hWe ltb (symN_lt _)
  refine ⟨_, .step s1 (r1.trans (.step (run_end (most := most) rfl rfl (by show (bytesN bs).2 + kN 256 ≤ _; omega) hpk) (.refl _ _))), rfl, ?_⟩
  show [] ++ bs = bs
  rfl

end Go.Proofs.Yteffnkpplhcomaa
