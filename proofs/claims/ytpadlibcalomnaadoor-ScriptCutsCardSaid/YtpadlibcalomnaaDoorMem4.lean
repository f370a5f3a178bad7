/- Program-generic: further rules over rows. No program in sight. -/
import Derived.Test.YtpadlibcalomnaaDoorMem3
set_option linter.unusedVariables false
namespace Go.Vc
open Go.RowKit

/-- append(s, y): the element laid in a box, and appended. -/
theorem snoc_own {P : Program} {T : Type} {E : El T} {st ty : TypeId} (TT : SlT P E st) {w : World} {base : Nat} {s : Slc} {xs : List T} {y : T} {vs : List Value} {K : Slc → World → Prop} (hown : Own E w base s xs) (hy : E.cells y = vs)
    (hb : base ≤ w.heap.size) (hl : (xs.length + 1) * TT.i.bytes ≤ 140737488355328) (hm : xs.length + 1 ≤ maxLen)
    (hK : ∀ r w', Own E w' base r (xs ++ [y]) → Chg (fun k => s.blk = some k) w w' → (∀ k, r.blk = some k → s.blk = some k ∨ w.heap.size ≤ k) → K r w') :
    nw E.t vs w fun a w1 => apK P #[st, st] ty s ⟨some a, 1, 1⟩ w1 fun r w2 => K r w2 := by
  refine nw_blk fun w1 hb1 hB1 hs1 => ?_
  refine apK_own TT (hown.ext hB1) (rd_one hb1 hy) (by omega) (by simpa using hl) (by simpa using hm) fun r w2 ho hg hr => hK r w2 ho ?_ ?_
  · exact (Chg.of_ext hB1).trans (Chg.of_grown (S := fun k => s.blk = some k) hg fun k hk => hk) fun i _ hi => hi
  · intro k hk
    rcases hr with hr | hr
    · exact .inl (hr ▸ hk)
    · right
      rw [hr] at hk
      cases hk
      omega
/-- Onto nil. -/
theorem onPtr_a {a : Addr} {K : Addr → Prop} (h : K a) : onPtr (some a) K := h
theorem i64_in {x : Int} (h : -9223372036854775808 ≤ x ∧ x ≤ 9223372036854775807) : IntKind.i64.wrap x = x := wrap64_id h
theorem own_ne_blk {w : World} {T : Type} {E : El T} {b g : Nat} {s : Slc} {xs : List T} {t : TypeId} {vs : List Value} (h : Own E w b s xs) (h' : Blk w g t vs) (hne : E.t ≠ t) : ∀ k, s.blk = some k → k ≠ g := fun k hk => by
  obtain ⟨cs, hcs⟩ := h.blk_t hk
  exact hcs.ne_t h' hne
theorem own_ne_row {w : World} {T T' : Type} {E : El T} {E' : El T'} {b b' : Nat} {s s' : Slc} {xs : List T} {ys : List T'} (h : Own E w b s xs) (h' : Own E' w b' s' ys) (hne : E.t ≠ E'.t) : ∀ k, s.blk = some k → s'.blk ≠ some k := fun k hk e => by
  obtain ⟨cs, hcs⟩ := h.blk_t hk
  obtain ⟨cs', hcs'⟩ := h'.blk_t e
  exact hcs.ne_t hcs' hne rfl
theorem chg_one {S : Nat → Prop} {w w' : World} {k : Nat} (h : Chg (fun i => i = k) w w') (hk : S k) : Chg S w w' := h.mono fun i _ hi => by rw [hi]; exact hk
end Go.Vc
