/- Arguments opened: where a slice lies. -/
import Derived.Test.YteffnkpplhcomaaOpen
import Derived.Test.YteffnkpplhcomaaMem3
namespace Go.Proofs.Yteffnkpplhcomaa
open Go.Vc Go.ChangeShapes Go.WideShapes Go.ChangeAt Go.RowKit
set_option maxRecDepth 100000
theorem wide_slice_lt {w : World} {r : Reach} {b0 : Nat} {t e : TypeId} {s : Slc} (ht : Try.prog.underlying t = some (.slice e)) (hv : Value.okWide Try.prog w r b0 t (.slice s.a s.n s.c)) : ∀ k, s.blk = some k → k < w.heap.size := by
  intro k hk
  obtain ⟨a, ha, rfl⟩ := slk.1 hk
  rw [ha] at hv
  unfold Value.okWide at hv
  rw [ht] at hv
  dsimp only at hv
  unfold Cell.okWide at hv
  rw [ht] at hv
  dsimp only at hv
  unfold Cell.ok at hv
  rw [ht] at hv
  dsimp only at hv
  obtain ⟨_, _, _, _, row, cells, hs, _⟩ := hv
  rcases Nat.lt_or_ge a.block w.heap.size with h | h
  · exact h
  · unfold World.shape? at hs
    rw [Array.getElem?_eq_none h] at hs
    cases hs
end Go.Proofs.Yteffnkpplhcomaa
