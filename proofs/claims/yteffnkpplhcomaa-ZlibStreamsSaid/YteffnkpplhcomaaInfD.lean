/- The machine of deflate streams over a part of the bytes. No program in sight. -/
import Derived.Test.YteffnkpplhcomaaInfP
namespace Go.Vc

def SR.shift (n : Nat) : SR → SR
  | .next c a => .next c (n + a)
  | .short => .short
  | .err e => .err e
section
variable {B : List UInt8} {k : Nat}
theorem msb_drop (hk : k ≤ B.length) (a n : Nat) : msb (B.drop k) a n = msb B (8 * k + a) n := by
  induction n with
  | zero => rfl
  | succ n ih => rw [msb, msb, ih, peekN_drop B k _ _ hk, Nat.add_assoc]
theorem readT_drop (hk : k ≤ B.length) (ls : List UInt8) (a : Nat) : readT ls (B.drop k) a = readT ls B (8 * k + a) := by
  unfold readT
  have : ∀ n j, readGo ls (B.drop k) a n j = readGo ls B (8 * k + a) n j := by
    intro n
    induction n with
    | zero => intro j; rfl
    | succ n ih =>
      intro j
      have e : 8 * (B.drop k).length - a = 8 * B.length - (8 * k + a) := by rw [List.length_drop]; omega
      rw [readGo, readGo, ih, msb_drop hk, e]
  exact this 16 1
theorem lensGo_drop (hk : k ≤ B.length) (t : List UInt8) (n : Nat) : ∀ f a l, lensGo t B n f (8 * k + a) l = match lensGo t (B.drop k) n f a l with | .lens l a => .lens l (8 * k + a) | .short => .short | .form => .form
  | 0, a, l => rfl
  | f + 1, a, l => by
    rw [lensGo, lensGo]
    split
    · rfl
    · rw [readT_drop hk]
      cases readT t B (8 * k + a) with
      | short => rfl
      | form => rfl
      | sym y j =>
        dsimp only
        split
        · rfl
        · obtain ⟨b, m, v, hbm⟩ : ∃ b m v, (if y = 18 then ((11, 7, 0) : Nat × Nat × UInt8) else if y = 17 then (3, 3, 0) else if y = 16 then (3, 2, l.getLastD 0) else (1, 0, UInt8.ofNat y)) = (b, m, v) := ⟨_, _, _, rfl⟩
          simp only [hbm]
          rw [peekN_drop B k _ _ hk, List.length_drop]
          have e1 : 8 * k + (a + j) = 8 * k + a + j := by omega
          rw [e1]
          by_cases h1 : 8 * (B.length - k) < a + j + m
          · rw [if_pos h1, if_pos (by omega)]
          · rw [if_neg h1, if_neg (by omega)]
            split
            · rfl
            · have e2 : 8 * k + a + j + m = 8 * k + (a + j + m) := by omega
              rw [e2, lensGo_drop hk t n f]
theorem clens_drop (hk : k ≤ B.length) (a : Nat) : ∀ i, clens (B.drop k) a i = clens B (8 * k + a) i
  | 0 => rfl
  | i + 1 => by rw [clens, clens, clens_drop hk a i, peekN_drop B k _ _ hk, Nat.add_assoc]
theorem up8_add (k a : Nat) : up8 (8 * k + a) = 8 * k + up8 a := by unfold up8; omega

theorem step1_drop (hk : k ≤ B.length) (most a : Nat) (c : Cfg) : step1 most B (8 * k + a) c = (step1 most (B.drop k) a c).shift (8 * k) := by
  have hl : (B.drop k).length = B.length - k := List.length_drop
  unfold step1
  split
  · rfl
  unfold stepN
  split
  · unfold stepHead
    rw [hl, peekN_drop B k _ _ hk]
    by_cases h : 8 * (B.length - k) < a + 3
    · rw [if_pos h, if_pos (by omega)]; rfl
    · rw [if_neg h, if_neg (by omega)]
      dsimp only
      split
      · rw [SR.shift, Nat.add_assoc]
      · split
        · rw [SR.shift, Nat.add_assoc]
        · split
          · rw [SR.shift, Nat.add_assoc]
          · rfl
  · split
    · unfold stepStored
      have e1 : 8 * k + up8 a + 16 = 8 * k + (up8 a + 16) := Nat.add_assoc _ _ _
      rw [hl, up8_add, peekN_drop B k _ _ hk, peekN_drop B k _ _ hk, e1]
      by_cases h : 8 * (B.length - k) < up8 a + 32
      · rw [if_pos h, if_pos (by omega)]; rfl
      · rw [if_neg h, if_neg (by omega)]
        split
        · rfl
        · rw [SR.shift, Nat.add_assoc]
    · split
      · unfold stepByte
        rw [hl, peekN_drop B k _ _ hk]
        split
        · rfl
        · by_cases h : 8 * (B.length - k) < a + 8
          · rw [if_pos h, if_pos (by omega)]; rfl
          · rw [if_neg h, if_neg (by omega)]
            split
            · rfl
            · rw [SR.shift, Nat.add_assoc]
      · split
        · unfold stepDyn
          have e1 : 8 * k + a + 5 = 8 * k + (a + 5) := Nat.add_assoc _ _ _
          have e2 : 8 * k + a + 10 = 8 * k + (a + 10) := Nat.add_assoc _ _ _
          have e3 : 8 * k + a + 14 = 8 * k + (a + 14) := Nat.add_assoc _ _ _
          rw [hl, peekN_drop B k _ _ hk, peekN_drop B k _ _ hk, peekN_drop B k _ _ hk, e1, e2, e3]
          by_cases h : 8 * (B.length - k) < a + 14
          · rw [if_pos h, if_pos (by omega)]; rfl
          · rw [if_neg h, if_neg (by omega)]
            dsimp only
            split
            · rfl
            · rw [clens_drop hk]
              obtain ⟨d, hd⟩ : ∃ d, 3 * (peekN B (8 * k + (a + 10)) 4 + 4) = d := ⟨_, rfl⟩
              rw [hd]
              by_cases h2 : 8 * (B.length - k) < a + 14 + d
              · rw [if_pos h2, if_pos (by omega)]; rfl
              · rw [if_neg h2, if_neg (by omega)]
                split
                · rfl
                · have e4 : 8 * k + (a + 14) + d = 8 * k + (a + 14 + d) := Nat.add_assoc _ _ _
                  rw [e4, lensGo_drop hk]
                  cases lensGo (clens B (8 * k + (a + 14)) (peekN B (8 * k + (a + 10)) 4 + 4)) (B.drop k) (peekN B (8 * k + a) 5 + 257 + peekN B (8 * k + (a + 5)) 5 + 1) 400 (a + 14 + d) [] with
                  | short => rfl
                  | form => rfl
                  | lens l a2 =>
                    dsimp only
                    split <;> rfl
        · unfold stepCode
          rw [readT_drop hk]
          cases readT c.sg B (8 * k + a) with
          | short => rfl
          | form => rfl
          | sym y j =>
            dsimp only
            split
            · rw [SR.shift, Nat.add_assoc]
            · split
              · rfl
              · split
                · split
                  · rfl
                  · rw [SR.shift, Nat.add_assoc]
                · obtain ⟨b, n, hbn⟩ : ∃ b n, lenBase y = (b, n) := ⟨_, _, rfl⟩
                  simp only [hbn]
                  have e1 : 8 * k + a + j = 8 * k + (a + j) := Nat.add_assoc _ _ _
                  have e2 : 8 * k + a + j + n = 8 * k + (a + j + n) := by omega
                  rw [hl, peekN_drop B k _ _ hk, readT_drop hk, e2, e1]
                  by_cases h : 8 * (B.length - k) < a + j + n
                  · rw [if_pos h, if_pos (by omega)]; rfl
                  · rw [if_neg h, if_neg (by omega)]
                    try dsimp only
                    cases readT c.ds B (8 * k + (a + j + n)) with
                    | short => rfl
                    | form => rfl
                    | sym z i =>
                      dsimp only
                      split
                      · rfl
                      · obtain ⟨b2, n2, hbn2⟩ : ∃ b n, distBase z = (b, n) := ⟨_, _, rfl⟩
                        simp only [hbn2]
                        have e3 : 8 * k + (a + j + n) + i = 8 * k + (a + j + n + i) := Nat.add_assoc _ _ _
                        rw [peekN_drop B k _ _ hk, e3]
                        by_cases h2 : 8 * (B.length - k) < a + j + n + i + n2
                        · rw [if_pos h2, if_pos (by omega)]; rfl
                        · rw [if_neg h2, if_neg (by omega)]
                          try dsimp only
                          split
                          · rfl
                          · split
                            · rfl
                            · rw [SR.shift, Nat.add_assoc]
end
end Go.Vc
