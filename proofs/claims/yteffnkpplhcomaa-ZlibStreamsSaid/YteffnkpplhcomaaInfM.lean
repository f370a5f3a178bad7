/- The machine of deflate streams: with more bytes behind it goes as it went; each step goes on. No program in sight. -/
import Derived.Test.YteffnkpplhcomaaInfD
namespace Go.Vc
section
variable {B : List UInt8}
theorem msb_append (m : List UInt8) (a n : Nat) (h : a + n ≤ 8 * B.length) : msb (B ++ m) a n = msb B a n := by
  induction n with
  | zero => rfl
  | succ n ih => rw [msb, msb, ih (by omega), peekN_append B m _ _ (by omega)]
theorem readGo_append (m ls : List UInt8) (a : Nat) : ∀ n j, 1 ≤ j → readGo ls B a n j ≠ .short → readGo ls (B ++ m) a n j = readGo ls B a n j
  | 0, _, _, _ => rfl
  | n + 1, j, hj, h => by
    have hl : (B ++ m).length = B.length + m.length := List.length_append
    rw [readGo] at h
    rw [readGo, readGo]
    split
    · rfl
    · next h1 =>
      rw [if_neg h1] at h
      by_cases h2 : min 15 (8 * B.length - a) < j
      · rw [if_pos h2] at h; exact absurd rfl h
      · rw [if_neg h2] at h ⊢
        rw [if_neg (by omega), msb_append m a j (by omega)]
        split
        · rfl
        · next h3 =>
          rw [if_neg h3] at h
          exact readGo_append m ls a n (j + 1) (by omega) h
theorem readT_append (m ls : List UInt8) (a : Nat) (h : readT ls B a ≠ .short) : readT ls (B ++ m) a = readT ls B a := readGo_append m ls a 16 1 (Nat.le_refl _) h
theorem readGo_le (ls : List UInt8) (a : Nat) {y k : Nat} : ∀ n j, 1 ≤ j → readGo ls B a n j = .sym y k → 1 ≤ k ∧ k ≤ 15 ∧ a + k ≤ 8 * B.length
  | 0, _, _, h => by cases h
  | n + 1, j, hj, h => by
    rw [readGo] at h
    split at h
    · cases h
    · split at h
      · cases h
      · split at h
        · injection h with _ h; omega
        · exact readGo_le ls a n (j + 1) (by omega) h
theorem readT_le {ls : List UInt8} {a y k : Nat} (h : readT ls B a = .sym y k) : 1 ≤ k ∧ k ≤ 15 ∧ a + k ≤ 8 * B.length := readGo_le ls a 16 1 (Nat.le_refl _) h
theorem lensGo_append (m t : List UInt8) (n : Nat) : ∀ f a l, lensGo t B n f a l ≠ .short → lensGo t (B ++ m) n f a l = lensGo t B n f a l
  | 0, _, _, _ => rfl
  | f + 1, a, l, h => by
    have hl : (B ++ m).length = B.length + m.length := List.length_append
    rw [lensGo] at h
    rw [lensGo, lensGo]
    split
    · rfl
    · next h1 =>
      rw [if_neg h1] at h
      cases hr : readT t B a with
      | short => rw [hr] at h; exact absurd rfl h
      | form => rw [readT_append m t a (by rw [hr]; intro e; cases e), hr]
      | sym y k =>
        rw [readT_append m t a (by rw [hr]; intro e; cases e), hr]
        rw [hr] at h
        dsimp only at h ⊢
        split
        · rfl
        · next h2 =>
          rw [if_neg h2] at h
          obtain ⟨b, mm, v, hbm⟩ : ∃ b m v, (if y = 18 then ((11, 7, 0) : Nat × Nat × UInt8) else if y = 17 then (3, 3, 0) else if y = 16 then (3, 2, l.getLastD 0) else (1, 0, UInt8.ofNat y)) = (b, m, v) := ⟨_, _, _, rfl⟩
          simp only [hbm] at h ⊢
          by_cases h3 : 8 * B.length < a + k + mm
          · rw [if_pos h3] at h; exact absurd rfl h
          · rw [if_neg h3] at h ⊢
            rw [if_neg (by omega), peekN_append B m _ _ (by omega)]
            split
            · rfl
            · next h4 =>
              rw [if_neg h4] at h
              exact lensGo_append m t n f _ _ h
theorem lensGo_le (t : List UInt8) (n : Nat) {l' : List UInt8} {a' : Nat} : ∀ f a l, a ≤ 8 * B.length → lensGo t B n f a l = .lens l' a' → a ≤ a' ∧ a' ≤ 8 * B.length
  | 0, _, _, _, h => by cases h
  | f + 1, a, l, ha, h => by
    rw [lensGo] at h
    split at h
    · injection h with h1 h2; omega
    · cases hr : readT t B a with
      | short => rw [hr] at h; cases h
      | form => rw [hr] at h; cases h
      | sym y k =>
        rw [hr] at h
        dsimp only at h
        split at h
        · cases h
        · obtain ⟨b, mm, v, hbm⟩ : ∃ b m v, (if y = 18 then ((11, 7, 0) : Nat × Nat × UInt8) else if y = 17 then (3, 3, 0) else if y = 16 then (3, 2, l.getLastD 0) else (1, 0, UInt8.ofNat y)) = (b, m, v) := ⟨_, _, _, rfl⟩
          simp only [hbm] at h
          split at h
          · cases h
          · split at h
            · cases h
            · have := lensGo_le t n f _ _ (by omega) h
              omega
theorem clens_append (m : List UInt8) (a : Nat) : ∀ i, a + 3 * i ≤ 8 * B.length → clens (B ++ m) a i = clens B a i
  | 0, _ => rfl
  | i + 1, h => by rw [clens, clens, clens_append m a i (by omega), peekN_append B m _ _ (by omega)]

theorem step1_append (m : List UInt8) (most a : Nat) (c : Cfg) (h : step1 most B a c ≠ .short) : step1 most (B ++ m) a c = step1 most B a c := by
  have hl : (B ++ m).length = B.length + m.length := List.length_append
  unfold step1 at h ⊢
  by_cases hm5 : c.mode = 5
  · rw [if_pos hm5, if_pos hm5]
  rw [if_neg hm5] at h ⊢
  rw [if_neg hm5]
  unfold stepN at h ⊢
  split
  · next h1 =>
    rw [if_pos h1] at h
    unfold stepHead at h ⊢
    by_cases h2 : 8 * B.length < a + 3
    · rw [if_pos h2] at h; exact absurd rfl h
    · rw [if_neg h2, if_neg (by omega), peekN_append B m _ _ (by omega)]
  · next h1 =>
    rw [if_neg h1] at h
    split
    · next h2 =>
      rw [if_pos h2] at h
      unfold stepStored at h ⊢
      by_cases h3 : 8 * B.length < up8 a + 32
      · rw [if_pos h3] at h; exact absurd rfl h
      · rw [if_neg h3, if_neg (by omega), peekN_append B m _ _ (by omega), peekN_append B m _ _ (by omega)]
    · next h2 =>
      rw [if_neg h2] at h
      split
      · next h3 =>
        rw [if_pos h3] at h
        unfold stepByte at h ⊢
        split
        · rfl
        · next h4 =>
          rw [if_neg h4] at h
          by_cases h5 : 8 * B.length < a + 8
          · rw [if_pos h5] at h; exact absurd rfl h
          · rw [if_neg h5, if_neg (by omega), peekN_append B m _ _ (by omega)]
      · next h3 =>
        rw [if_neg h3] at h
        split
        · next h4 =>
          rw [if_pos h4] at h
          unfold stepDyn at h ⊢
          by_cases h5 : 8 * B.length < a + 14
          · rw [if_pos h5] at h; exact absurd rfl h
          · rw [if_neg h5] at h ⊢
            rw [if_neg (by omega), peekN_append B m _ _ (by omega), peekN_append B m _ _ (by omega), peekN_append B m _ _ (by omega)]
            dsimp only at h ⊢
            split
            · rfl
            · next h6 =>
              rw [if_neg h6] at h
              by_cases h7 : 8 * B.length < a + 14 + 3 * (peekN B (a + 10) 4 + 4)
              · rw [if_pos h7] at h; exact absurd rfl h
              · rw [if_neg h7] at h ⊢
                rw [if_neg (by omega), clens_append m _ _ (by omega)]
                split
                · rfl
                · next h8 =>
                  rw [if_neg h8] at h
                  have hne : lensGo (clens B (a + 14) (peekN B (a + 10) 4 + 4)) B (peekN B a 5 + 257 + peekN B (a + 5) 5 + 1) 400 (a + 14 + 3 * (peekN B (a + 10) 4 + 4)) [] ≠ .short := fun e => by rw [e] at h; exact h rfl
                  rw [lensGo_append m _ _ _ _ _ hne]
        · next h4 =>
          rw [if_neg h4] at h
          unfold stepCode at h ⊢
          have hne : readT c.sg B a ≠ .short := fun e => by rw [e] at h; exact h rfl
          rw [readT_append m _ _ hne]
          cases hr : readT c.sg B a with
          | short => exact absurd hr hne
          | form => rfl
          | sym y k =>
            rw [hr] at h
            dsimp only at h ⊢
            split
            · rfl
            · next h5 =>
              rw [if_neg h5] at h
              split
              · rfl
              · next h6 =>
                rw [if_neg h6] at h
                split
                · rfl
                · next h7 =>
                  rw [if_neg h7] at h
                  obtain ⟨b, n, hbn⟩ : ∃ b n, lenBase y = (b, n) := ⟨_, _, rfl⟩
                  simp only [hbn] at h ⊢
                  by_cases h8 : 8 * B.length < a + k + n
                  · rw [if_pos h8] at h; exact absurd rfl h
                  · rw [if_neg h8] at h ⊢
                    rw [if_neg (by omega), peekN_append B m _ _ (by omega)]
                    have hne2 : readT c.ds B (a + k + n) ≠ .short := fun e => by rw [e] at h; exact h rfl
                    rw [readT_append m _ _ hne2]
                    cases hr2 : readT c.ds B (a + k + n) with
                    | short => exact absurd hr2 hne2
                    | form => rfl
                    | sym z j =>
                      rw [hr2] at h
                      dsimp only at h ⊢
                      split
                      · rfl
                      · next h9 =>
                        rw [if_neg h9] at h
                        obtain ⟨b2, n2, hbn2⟩ : ∃ b n, distBase z = (b, n) := ⟨_, _, rfl⟩
                        simp only [hbn2] at h ⊢
                        by_cases h10 : 8 * B.length < a + k + n + j + n2
                        · rw [if_pos h10] at h; exact absurd rfl h
                        · rw [if_neg h10, if_neg (by omega), peekN_append B m _ _ (by omega)]

/-- How much is still to come, and to do. -/
def mu (B : List UInt8) (c : Cfg) (a : Nat) : Nat := 2 * (8 * B.length - a) + (if c.mode = 2 then 1 else 0)
theorem step1_next {most a a' : Nat} {c c' : Cfg} (h : step1 most B a c = .next c' a') (ha : a ≤ 8 * B.length) : a' ≤ 8 * B.length ∧ a ≤ a' ∧ mu B c' a' < mu B c a := by
  have fin : a + 1 ≤ a' → a' ≤ 8 * B.length → a' ≤ 8 * B.length ∧ a ≤ a' ∧ mu B c' a' < mu B c a := fun h1 h2 => ⟨h2, by omega, by unfold mu; split <;> split <;> omega⟩
  unfold step1 at h
  by_cases hm5 : c.mode = 5
  · rw [if_pos hm5] at h; cases h
  rw [if_neg hm5] at h
  unfold stepN at h
  split at h
  · unfold stepHead at h
    split at h
    · cases h
    · dsimp only at h
      repeat' split at h
      all_goals first | (cases h; done) | (injection h with h1 h2; exact fin (by omega) (by omega))
  · split at h
    · unfold stepStored at h
      have : a ≤ up8 a := by unfold up8; omega
      repeat' split at h
      all_goals first | (cases h; done) | (injection h with h1 h2; exact fin (by omega) (by omega))
    · split at h
      · next h2 =>
        unfold stepByte at h
        split at h
        · injection h with h3 h4
          subst h3 h4
          refine ⟨ha, Nat.le_refl _, ?_⟩
          unfold mu
          rw [if_pos h2, if_neg]
          · omega
          · unfold Cfg.behind
            dsimp only
            split <;> omega
        · repeat' split at h
          all_goals first | (cases h; done) | (injection h with h1 h2; exact fin (by omega) (by omega))
      · split at h
        · unfold stepDyn at h
          split at h
          · cases h
          · dsimp only at h
            split at h
            · cases h
            · split at h
              · cases h
              · split at h
                · cases h
                · split at h
                  · cases h
                  · cases h
                  · next hlt _ _ _ l a2 hgo =>
                    have := lensGo_le _ _ _ _ _ (by omega) hgo
                    split at h
                    · cases h
                    · injection h with h1 h2; exact fin (by omega) (by omega)
        · unfold stepCode at h
          cases hr : readT c.sg B a with
          | short => rw [hr] at h; cases h
          | form => rw [hr] at h; cases h
          | sym y k =>
            have hk := readT_le hr
            rw [hr] at h
            dsimp only at h
            split at h
            · injection h with h1 h2; exact fin (by omega) (by omega)
            · split at h
              · cases h
              · split at h
                · split at h
                  · cases h
                  · injection h with h1 h2; exact fin (by omega) (by omega)
                · obtain ⟨b, n, hbn⟩ : ∃ b n, lenBase y = (b, n) := ⟨_, _, rfl⟩
                  simp only [hbn] at h
                  split at h
                  · cases h
                  · cases hr2 : readT c.ds B (a + k + n) with
                    | short => rw [hr2] at h; cases h
                    | form => rw [hr2] at h; cases h
                    | sym z j =>
                      rw [hr2] at h
                      dsimp only at h
                      split at h
                      · cases h
                      · obtain ⟨b2, n2, hbn2⟩ : ∃ b n, distBase z = (b, n) := ⟨_, _, rfl⟩
                        simp only [hbn2] at h
                        split at h
                        · cases h
                        · split at h
                          · cases h
                          · split at h
                            · cases h
                            · injection h with h1 h2; exact fin (by omega) (by omega)
end
end Go.Vc
