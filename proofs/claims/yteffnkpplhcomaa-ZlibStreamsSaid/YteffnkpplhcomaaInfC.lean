/- The machine under a smaller cap. -/
import Derived.Test.YteffnkpplhcomaaInfH
namespace Go.Proofs.Yteffnkpplhcomaa
open Go.Vc Go.RowKit
set_option maxRecDepth 400000

theorem copyN_len {most far : Nat} {h' : List UInt8} : ∀ (n : Nat) (h : List UInt8), copyN most far n h = some h' → h'.length = h.length + n
  | 0, h, e => by injection e with e; subst e; rfl
  | n + 1, h, e => by
    rw [copyN] at e
    split at e
    · cases e
    · have := copyN_len n _ e
      rw [this, List.length_append, List.length_cons, List.length_nil]
      omega
theorem copyN_cap {big small far : Nat} {h' : List UInt8} : ∀ (n : Nat) (h : List UInt8), copyN big far n h = some h' → h.length ≤ small → copyN small far n h = if h'.length ≤ small then some h' else none
  | 0, h, e, hs => by injection e with e; subst e; rw [if_pos hs]; rfl
  | n + 1, h, e, hs => by
    have hl := copyN_len _ _ e
    rw [copyN] at e ⊢
    split at e
    · cases e
    · by_cases h1 : small ≤ h.length
      · rw [if_pos h1, if_neg (by omega)]
      · rw [if_neg h1]
        exact copyN_cap n _ e (by simp; omega)
theorem step1_cap {big small : Nat} {B : List UInt8} {a a1 : Nat} {c c1 : Cfg} (h : step1 big B a c = .next c1 a1) (hs : c.hist.length ≤ small) : step1 small B a c = if c1.hist.length ≤ small then .next c1 a1 else .err 5 := by
  unfold step1 at h ⊢
  by_cases hm5 : c.mode = 5
  · rw [if_pos hm5] at h; cases h
  rw [if_neg hm5] at h ⊢
  unfold stepN at h ⊢
  by_cases m0 : c.mode = 0
  · rw [if_pos m0] at h ⊢
    rw [h]
    unfold stepHead at h
    dsimp only at h
    repeat' split at h
    all_goals first | (cases h; done) | (injection h with h1 h2; subst h1; rw [if_pos hs])
  rw [if_neg m0] at h ⊢
  by_cases m1 : c.mode = 1
  · rw [if_pos m1] at h ⊢
    rw [h]
    unfold stepStored at h
    repeat' split at h
    all_goals first | (cases h; done) | (injection h with h1 h2; subst h1; rw [if_pos hs])
  rw [if_neg m1] at h ⊢
  by_cases m2 : c.mode = 2
  · rw [if_pos m2] at h ⊢
    unfold stepByte at h ⊢
    split at h
    · next h0 => injection h with h1 h2; subst h1 h2; rw [if_pos h0]; exact (if_pos hs).symm
    · next h0 =>
      rw [if_neg h0]
      split at h
      · cases h
      · next h3 =>
        rw [if_neg h3]
        split at h
        · cases h
        · injection h with h1 h2
          subst h1 h2
          show _ = if (c.hist ++ [_]).length ≤ small then _ else _
          rw [List.length_append, List.length_cons, List.length_nil]
          by_cases h4 : small ≤ c.hist.length
          · rw [if_pos h4, if_neg (by omega)]
          · rw [if_neg h4, if_pos (by omega)]
  rw [if_neg m2] at h ⊢
  by_cases m3 : c.mode = 3
  · rw [if_pos m3] at h ⊢
    rw [h]
    unfold stepDyn at h
    dsimp only at h
    repeat' split at h
    all_goals first | (cases h; done) | (injection h with h1 h2; subst h1; rw [if_pos hs])
  rw [if_neg m3] at h ⊢
  unfold stepCode at h ⊢
  cases hr : readT c.sg B a with
  | short => rw [hr] at h; cases h
  | form => rw [hr] at h; cases h
  | sym y k =>
    rw [hr] at h
    dsimp only at h ⊢
    split at h
    · next h0 => injection h with h1 h2; subst h1 h2; rw [if_pos h0]; exact (if_pos hs).symm
    · next h0 =>
      rw [if_neg h0]
      split at h
      · cases h
      · next h3 =>
        rw [if_neg h3]
        split at h
        · next h5 =>
          rw [if_pos h5]
          split at h
          · cases h
          · injection h with h1 h2
            subst h1 h2
            show _ = if (c.hist ++ [_]).length ≤ small then _ else _
            rw [List.length_append, List.length_cons, List.length_nil]
            by_cases h4 : small ≤ c.hist.length
            · rw [if_pos h4, if_neg (by omega)]
            · rw [if_neg h4, if_pos (by omega)]
        · next h5 =>
          rw [if_neg h5]
          obtain ⟨b, n, hbn⟩ : ∃ b n, lenBase y = (b, n) := ⟨_, _, rfl⟩
          simp only [hbn] at h ⊢
          split at h
          · cases h
          · next h6 =>
            rw [if_neg h6]
            cases hr2 : readT c.ds B (a + k + n) with
            | short => rw [hr2] at h; cases h
            | form => rw [hr2] at h; cases h
            | sym z j =>
              rw [hr2] at h
              dsimp only at h ⊢
              split at h
              · cases h
              · next h7 =>
                rw [if_neg h7]
                obtain ⟨b2, n2, hbn2⟩ : ∃ b n, distBase z = (b, n) := ⟨_, _, rfl⟩
                simp only [hbn2] at h ⊢
                split at h
                · cases h
                · next h8 =>
                  rw [if_neg h8]
                  split at h
                  · cases h
                  · next h9 =>
                    rw [if_neg h9]
                    cases hc : copyN big (b2 + peekN B (a + k + n + j) n2) (b + peekN B (a + k) n) c.hist with
                    | none => rw [hc] at h; cases h
                    | some h' =>
                      rw [hc] at h
                      injection h with h1 h2
                      subst h1 h2
                      rw [copyN_cap _ _ hc hs]
                      show _ = if h'.length ≤ small then _ else _
                      by_cases hh : h'.length ≤ small
                      · rw [if_pos hh, if_pos hh]
                      · rw [if_neg hh, if_neg hh]
/-- A run whose history grows beyond a smaller cap: with that cap it ends in error 5. -/
theorem Ch.cap {big small : Nat} {B : List UInt8} {c c' : Cfg} {a a' : Nat} (h : Ch big B c a c' a') (hs : c.hist.length ≤ small) : Ch small B c a c' a' ∨ ∃ c1 a1, Ch small B c a c1 a1 ∧ step1 small B a1 c1 = .err 5 := by
  induction h with
  | refl c a => exact .inl (.refl _ _)
  | @step c a c1 a1 c2 a2 h r ih =>
    have h1 := step1_cap h hs
    by_cases hl : c1.hist.length ≤ small
    · rw [if_pos hl] at h1
      rcases ih hl with h2 | ⟨c3, a3, h3, s3⟩
      · exact .inl (.step h1 h2)
      · exact .inr ⟨c3, a3, .step h1 h3, s3⟩
    · rw [if_neg hl] at h1
      exact .inr ⟨c, a, .refl _ _, h1⟩
theorem Ch.most {most : Nat} {B : List UInt8} {c c' : Cfg} {a a' : Nat} (h : Ch most B c a c' a') (hs : c.hist.length ≤ most) : c'.hist.length ≤ most := by
  induction h with
  | refl c a => exact hs
  | @step c a c1 a1 c2 a2 h r ih =>
    refine ih ?_
    have h1 := step1_cap h hs
    by_cases hl : c1.hist.length ≤ most
    · exact hl
    · rw [if_neg hl, h] at h1
      cases h1
end Go.Proofs.Yteffnkpplhcomaa
