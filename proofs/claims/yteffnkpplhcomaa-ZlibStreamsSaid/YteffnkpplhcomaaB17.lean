/- Inflate, by any run of the machine that stops; the machine as a function. -/
import Derived.Test.YteffnkpplhcomaaInfC
namespace Go.Proofs.Yteffnkpplhcomaa
open Go.Vc Go.RowKit
set_option maxRecDepth 400000

def runM (most : Nat) (B : List UInt8) : Nat → Nat → Cfg → Cfg × Nat × SR
  | 0, a, c => (c, a, step1 most B a c)
  | f + 1, a, c => match step1 most B a c with
    | .next c' a' => runM most B f a' c'
    | r => (c, a, r)
theorem runM_ch {most : Nat} {B : List UInt8} : ∀ (f a : Nat) (c : Cfg), Ch most B c a (runM most B f a c).1 (runM most B f a c).2.1 ∧ step1 most B (runM most B f a c).2.1 (runM most B f a c).1 = (runM most B f a c).2.2
  | 0, a, c => ⟨.refl _ _, rfl⟩
  | f + 1, a, c => by
    cases h : step1 most B a c with
    | next c' a' =>
      obtain ⟨h1, h2⟩ := runM_ch (most := most) (B := B) f a' c'
      have e : runM most B (f + 1) a c = runM most B f a' c' := by rw [runM, h]
      rw [e]
      exact ⟨.step h h1, h2⟩
    | short =>
      have e : runM most B (f + 1) a c = (c, a, .short) := by rw [runM, h]
      rw [e]
      exact ⟨.refl _ _, h⟩
    | err n =>
      have e : runM most B (f + 1) a c = (c, a, .err n) := by rw [runM, h]
      rw [e]
      exact ⟨.refl _ _, h⟩

section
variable {w : World}
theorem Inflate_run {b : Slc} {bs : List UInt8} {most : Nat} {c1 : Cfg} {a1 : Nat} {r : SR} {K : Slc → Int → Int → World → Prop} (hm : most ≤ 1073741824) (hb : Rd E_uint8 w b bs) (hbl : ∀ k, b.blk = some k → k < w.heap.size) (hl : bs.length ≤ 1000000000)
    (hch : Ch most bs cfg0 0 c1 a1) (hst : step1 most bs a1 c1 = r) (hr : ∀ c a, r ≠ .next c a)
    (hK1 : c1.mode = 5 → ∀ o w', Own E_uint8 w' w.heap.size o c1.hist → Below w.heap.size w w' → K o (((a1 + 7) / 8 : Nat) : Int) 0 w')
    (hK2 : c1.mode ≠ 5 → r = .short → ∀ w', Below w.heap.size w w' → K nilS 0 2 w')
    (hK3 : ∀ n : Nat, r = .err n → ∀ w', Below w.heap.size w w' → K nilS 0 n w') : c_inflate_Inflate b most w K := by
  subst hst
  refine Inflate_spec hm hb hbl hl ?_ ?_ ?_
  · intro o c' p' w' h h5 ho hB
    obtain ⟨rfl, rfl⟩ := hch.same h hr (by rw [step1_five h5]; intro _ _ e; cases e)
    exact hK1 h5 o w' ho hB
  · intro c' p' w' h h4 hs hB
    obtain ⟨rfl, rfl⟩ := hch.same h hr (by rw [hs]; intro _ _ e; cases e)
    exact hK2 (by omega) hs w' hB
  · intro n c' p' w' hn h hs hB
    obtain ⟨rfl, rfl⟩ := hch.same h hr (by rw [hs]; intro _ _ e; cases e)
    exact hK3 n hs w' hB
end

-- the three streams that the laws look at first
theorem known1 : (runM 10 [1, 2, 0, 253, 255, 104, 105, 9] 9 0 cfg0).1.mode = 5 ∧ (runM 10 [1, 2, 0, 253, 255, 104, 105, 9] 9 0 cfg0).1.hist = [104, 105] ∧ (runM 10 [1, 2, 0, 253, 255, 104, 105, 9] 9 0 cfg0).2.1 = 56 := by decide +kernel
theorem known2 : (runM 1 [75, 4, 0] 9 0 cfg0).1.mode = 5 ∧ (runM 1 [75, 4, 0] 9 0 cfg0).1.hist = [97] ∧ ((runM 1 [75, 4, 0] 9 0 cfg0).2.1 + 7) / 8 = 3 := by decide +kernel
theorem known3 : (match (runM 0 [75, 4, 0] 9 0 cfg0).2.2 with | .err n => n | _ => 0) = 5 := by decide +kernel
end Go.Proofs.Yteffnkpplhcomaa
