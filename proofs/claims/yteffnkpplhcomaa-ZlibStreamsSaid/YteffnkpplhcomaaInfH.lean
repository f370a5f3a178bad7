/- Fronts of a stream; two runs of the machine agree; the run's end. -/
import Derived.Test.YteffnkpplhcomaaInfG
namespace Go.Proofs.Yteffnkpplhcomaa
open Go.Vc Go.RowKit
set_option maxRecDepth 400000

theorem step1_five {most : Nat} {B : List UInt8} {a : Nat} {c : Cfg} (h : c.mode = 5) : step1 most B a c = .short := by rw [step1, if_pos h]
/-- Two runs from the same place that both stop: they stop at the same place. -/
theorem Ch.same {most : Nat} {B : List UInt8} {c c1 c2 : Cfg} {a a1 a2 : Nat} (h1 : Ch most B c a c1 a1) (h2 : Ch most B c a c2 a2) (s1 : ∀ c' a', step1 most B a1 c1 ≠ .next c' a') (s2 : ∀ c' a', step1 most B a2 c2 ≠ .next c' a') : c1 = c2 ∧ a1 = a2 := by
  induction h1 with
  | refl c a =>
    cases h2 with
    | refl => exact ⟨rfl, rfl⟩
    | step h r => exact absurd h (s1 _ _)
  | step h r ih =>
    cases h2 with
    | refl => exact absurd h (s2 _ _)
    | step h' r' =>
      rw [h] at h'
      injection h' with e1 e2
      subst e1 e2
      exact ih r' s1
/-- A front of a stream on which the machine goes beyond it: the machine stops short, ahead of its end. -/
theorem Ch.front {most : Nat} {P T : List UInt8} {c c' : Cfg} {a a' : Nat} (h : Ch most (P ++ T) c a c' a') (ha : a ≤ 8 * P.length) (ha' : 8 * P.length < a') : ∃ c1 a1, Ch most P c a c1 a1 ∧ step1 most P a1 c1 = .short ∧ c1.mode ≠ 5 := by
  induction h with
  | refl c a => omega
  | @step c a c1 a1 c2 a2 h r ih =>
    by_cases hs : step1 most P a c = .short
    · exact ⟨c, a, .refl _ _, hs, fun e => by rw [step1_five e] at h; cases h⟩
    · have e := step1_append T most a c hs
      rw [h] at e
      have hle := step1_next e.symm ha
      obtain ⟨c3, a3, h3, s3, m3⟩ := ih hle.1 ha'
      exact ⟨c3, a3, .step e.symm h3, s3, m3⟩

end Go.Proofs.Yteffnkpplhcomaa
