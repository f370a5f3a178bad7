/- Program-generic: more rules over slices that read as lists. No program in sight. -/
import Derived.Test.YtpadlibcalomnaaDoorMem
namespace Go.Vc
open Go.RowKit

/-- Rows of unlike elements are apart. -/
theorem own_ne_own {T T' : Type} {E : El T} {E' : El T'} {w : World} {base base' : Nat} {s s' : Slc} {xs : List T} {ys : List T'} (h : Own E w base s xs) (h' : Own E' w base' s' ys) (hne : E.t ≠ E'.t) : s.blk = none ∨ s.blk ≠ s'.blk := by
  cases hs : s.blk with
  | none => exact .inl rfl
  | some g =>
    refine .inr fun e => ?_
    obtain ⟨cs, hcs⟩ := h.blk_t hs
    obtain ⟨cs', hcs'⟩ := h'.blk_t e.symm
    exact hcs.ne_t hcs' hne rfl

theorem bnd_none {y d : Nat} {K : Nat → Prop} (h : K d) : bnd none y d K := h
theorem bnd_some {i : Int} {y d : Nat} {K : Nat → Prop} (h0 : 0 ≤ i) (h1 : i ≤ y) (h : K i.toNat) : bnd (some i) y d K := ⟨⟨h0, h1⟩, h⟩

/-- A part of a slice that reads as a list. -/
theorem Rd.part {T : Type} {E : El T} {w : World} {s : Slc} {xs : List T} (h : Rd E w s xs) {l m : Nat} (hl : l ≤ m) (hm : m ≤ xs.length) :
    Rd E w ⟨cut s.a l s.c E.k, m - l, s.c - l⟩ ((xs.take m).drop l) := by
  have hn := h.n
  have hnc := h.nc
  have hcm := h.cm
  have hlen : ((xs.take m).drop l).length = m - l := by simp; omega
  refine ⟨hlen.symm, by show m - l ≤ s.c - l; omega, by show s.c - l ≤ maxLen; omega, fun hp => ?_, fun i x hx => ?_⟩
  · rw [hlen] at hp
    obtain ⟨a, ha⟩ := Option.isSome_iff_exists.1 (h.some_ (by omega))
    show (cut s.a l s.c E.k).isSome = true
    unfold cut
    rw [ha]
    split <;> rfl
  · have hi : i < m - l := by rw [← hlen]; exact (List.getElem?_eq_some_iff.1 hx).1
    rw [List.getElem?_drop, List.getElem?_take_of_lt (by omega)] at hx
    have hc := h.at_ _ _ hx
    obtain ⟨a, ha⟩ := Option.isSome_iff_exists.1 (h.some_ (by omega))
    have e : (⟨cut s.a l s.c E.k, m - l, s.c - l⟩ : Slc).at_ E.k i = s.at_ E.k (l + i) := by
      unfold Slc.at_ cut
      rw [ha, if_neg (by omega)]
      simp only [Option.map_some, Option.getD_some]
      rw [add_add, Nat.add_mul]
    rw [e]
    exact hc

/-- s[l:h] of a slice that reads as a list. -/
theorem Rd.slK {T : Type} {E : El T} {w : World} {s : Slc} {xs : List T} (h : Rd E w s xs) {lo hi : Option Int} {k : Nat} (hk : k = E.k) {l m : Nat} {K : Slc → Prop} (hlo : lo = none ∧ l = 0 ∨ lo = some (l : Int)) (hhi : hi = none ∧ m = xs.length ∨ hi = some (m : Int))
    (hl : l ≤ m) (hm : m ≤ xs.length) (hK : Rd E w ⟨cut s.a l s.c E.k, m - l, s.c - l⟩ ((xs.take m).drop l) → K ⟨cut s.a l s.c E.k, m - l, s.c - l⟩) : slK s lo hi k K := by
  subst hk
  have hn := h.n
  have hnc := h.nc
  have key : K ⟨cut s.a l s.c E.k, m - l, s.c - l⟩ := hK (h.part hl hm)
  unfold Vc.slK
  have inner : bnd lo m 0 fun l' => K ⟨cut s.a l' s.c E.k, m - l', s.c - l'⟩ := by
    rcases hlo with ⟨rfl, rfl⟩ | rfl
    · exact bnd_none key
    · exact bnd_some (by omega) (by omega) (by simpa using key)
  rcases hhi with ⟨rfl, rfl⟩ | rfl
  · refine bnd_none ?_
    rw [hn]
    exact inner
  · exact bnd_some (by omega) (by omega) (by simpa using inner)

/-! ### append(nil, make([]T, n)...) -/
theorem run_append_make {P : Program} {T : Type} {E : El T} {st it : TypeId} {kk : IntKind} (TT : SlT P E st) (ty : TypeId) (hit : P.underlying it = some (.int kk)) (w : World) (n : Nat) (h0 : 0 < n) (h63 : n ≤ maxLen) (h48 : n * TT.i.bytes ≤ 140737488355328) :
    (Builtin.append_ #[st, it] ty #[.slice none 0 0, .int .i64 n]).run P w =
      .ok (.slice (some ⟨w.heap.size, 0, none⟩) n (grownCap w n 0 E.t)) (w.drew.alloc (.cells (Builtin.zeroCells TT.z.cells n ++ Builtin.zeroCells TT.z.cells (grownCap w n 0 E.t - n)) E.t)) := by
  have hn : n ≠ 0 := by omega
  have hw : IntKind.i64.wrap (n : Int) = n := wrap64_id (by simp only [maxLen] at h63; omega)
  have hb : ¬ (281474976710656 < (n : Int) * (TT.i.bytes : Int)) := by
    rw [show (n : Int) * (TT.i.bytes : Int) = ((n * TT.i.bytes : Nat) : Int) by simp]
    omega
  have h63' : ¬ (9223372036854775807 < (n : Int)) := by simp only [maxLen] at h63; omega
  have h48' : ¬ (281474976710656 < Builtin.nextslicecap n 0 * TT.i.bytes) := by rw [nextslicecap_zero h0]; omega
  have hk := E.pos
  have hs : ¬ (TT.i.size = 0) := by rw [TT.hs]; omega
  have hneg : ¬ ((n : Int) < 0) := by omega
  have hai : (asIntOf (.int .i64 (n : Int))).run P w = .ok (.i64, (n : Int)) w := rfl
  simp [Builtin.append_, run_underlying TT.ht, run_underlying hit, sizeOf, typeInfo, zeroValue, TT.hi, TT.hz, asInt, hai, hw, hb, hn, h63', h48', hneg, Question.forced, run_firstCells_none, newRow, grownCap]
  intro e
  have : 0 < n * TT.i.size := Nat.mul_pos h0 (by omega)
  omega

theorem apM_nil {P : Program} {T : Type} {E : El T} {st it : TypeId} {kk : IntKind} (TT : SlT P E st) {ty : TypeId} (hit : P.underlying it = some (.int kk)) {w : World} {n : Nat} {m : Int} {K : Slc → World → Prop} (hm : m = n) (h0 : 0 < n) (h63 : n ≤ maxLen) (h48 : n * TT.i.bytes ≤ 140737488355328)
    (hK : ∀ cap w', n ≤ cap → cap ≤ maxLen → Own E w' w.heap.size ⟨some ⟨w.heap.size, 0, none⟩, 0, cap⟩ [] → Below w.heap.size w w' → K ⟨some ⟨w.heap.size, 0, none⟩, n, cap⟩ w') : apM P #[st, it] ty ⟨none, 0, 0⟩ m .i64 w K := by
  subst hm
  refine ⟨⟨some ⟨w.heap.size, 0, none⟩, n, grownCap w n 0 E.t⟩, _, run_append_make TT ty hit w n h0 h63 h48, hK _ _ (grownCap_ge w n 0 E.t) (grownCap_le_maxLen w n 0 E.t h63) ?_ ?_⟩
  · have hge := grownCap_ge w n 0 E.t
    generalize hA : Builtin.zeroCells TT.z.cells n ++ Builtin.zeroCells TT.z.cells (grownCap w n 0 E.t - n) = A
    have hsz : A.size = grownCap w n 0 E.t * E.k := by
      rw [← hA]
      simp only [Array.size_append, size_zeroCells, TT.hzs, ← Nat.add_mul]
      congr 1
      omega
    refine Own.of_blk (E := E) (xs := []) (cur := A.toList) (Nat.le_refl _) ?_ (Nat.zero_le _) (grownCap_le_maxLen w n 0 E.t h63) ?_ (by simp [flat])
    · have := Blk.new w.drew E.t A.toList
      rwa [Array.toArray_toList] at this
    · rw [Array.length_toList]; exact hsz
  · exact (Below.refl _ w).drew.alloc (Nat.le_refl _) _

end Go.Vc
