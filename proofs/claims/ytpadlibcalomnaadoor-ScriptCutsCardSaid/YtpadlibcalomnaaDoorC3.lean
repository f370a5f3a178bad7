/- Items joined: the program's Join. -/
import Derived.Test.YtpadlibcalomnaaDoorC2
set_option linter.unusedVariables false
namespace Go.Proofs.YtpadlibcalomnaaDoor
open Go.Vc Go.RowKit
set_option maxRecDepth 400000
theorem joinS_len (out : List ItL) (x : ItL) : (joinS out x).length ≤ out.length + 1 ∧ sumF (joinS out x) ≤ sumF out + x.f.length := by
  have happ : ∀ (a b : List ItL), sumF (a ++ b) = sumF a + sumF b := fun a b => by simp [sumF]
  unfold joinS
  split
  · rw [happ]; simp [sumF]
  · split
    · omega
    · cases hl : out.getLast? with
      | none => simp only; rw [happ]; simp [sumF]
      | some y =>
        simp only
        obtain ⟨a, ha⟩ : ∃ a, out = a ++ [y] := by
          have hne : out ≠ [] := fun e => by rw [e] at hl; cases hl
          refine ⟨out.dropLast, ?_⟩
          have := List.dropLast_concat_getLast hne
          rw [List.getLast?_eq_some_getLast hne] at hl
          rw [← Option.some.inj hl]
          exact this.symm
        subst ha
        split
        · rw [happ]; simp [sumF]
        · rw [List.dropLast_concat, happ, happ]
          simp [sumF]
          omega
theorem join_len : ∀ (l out : List ItL), (l.foldl joinS out).length ≤ out.length + l.length ∧ sumF (l.foldl joinS out) ≤ sumF out + sumF l
  | [], out => by simp [sumF]
  | x :: l, out => by
    obtain ⟨h1, h2⟩ := join_len l (joinS out x)
    obtain ⟨h3, h4⟩ := joinS_len out x
    rw [List.foldl_cons]
    have : sumF (x :: l) = x.f.length + sumF l := by simp [sumF]
    rw [List.length_cons]
    omega
structure OwAt (w : World) (base : Nat) (x : T_script_Item) (it : ItL) : Prop where
  f : Go.Vc.Own E_uint8 w base x.Feed it.f
  z : x.Size = it.z
  r : x.Rows = it.r
  c : x.Cols = it.c
structure Ows (w : World) (base : Nat) (xs : List T_script_Item) (L : List ItL) : Prop where
  len : xs.length = L.length
  at_ : ∀ (i : Nat) x it, xs[i]? = some x → L[i]? = some it → OwAt w base x it
theorem Ows.ats {w : World} {base : Nat} {xs : List T_script_Item} {L : List ItL} (h : Ows w base xs L) : Ats w xs L := ⟨h.len, fun i x it hx hi => by
  obtain ⟨a, b, c, d⟩ := h.at_ i x it hx hi
  exact ⟨a.rd, b, c, d⟩⟩
theorem Ows.nil (w : World) (base : Nat) : Ows w base [] [] := ⟨rfl, fun i x it hx => by simp at hx⟩
theorem Ows.snoc {w : World} {base : Nat} {xs : List T_script_Item} {L : List ItL} (h : Ows w base xs L) {x : T_script_Item} {it : ItL} (hx : OwAt w base x it) : Ows w base (xs ++ [x]) (L ++ [it]) := by
  refine ⟨by rw [List.length_append, List.length_append, h.len]; rfl, fun i y jt hy hj => ?_⟩
  have hl := h.len
  by_cases hi : i < xs.length
  · rw [List.getElem?_append_left hi] at hy
    rw [List.getElem?_append_left (by omega)] at hj
    exact h.at_ i y jt hy hj
  · rw [List.getElem?_append_right (by omega)] at hy
    rw [List.getElem?_append_right (by omega)] at hj
    obtain ⟨n, hn⟩ : ∃ n, i - xs.length = n := ⟨_, rfl⟩
    rw [hn] at hy
    rw [show i - L.length = n by omega] at hj
    cases n with
    | zero => cases hy; cases hj; exact hx
    | succ n => simp at hy
theorem Ows.drew {w : World} {base : Nat} {xs : List T_script_Item} {L : List ItL} (h : Ows w base xs L) : Ows w.drew base xs L := ⟨h.len, fun i x it hx hi => by
  obtain ⟨a, b, c, d⟩ := h.at_ i x it hx hi
  exact ⟨a.drew, b, c, d⟩⟩
theorem Ows.ext {w w' : World} {base : Nat} {xs : List T_script_Item} {L : List ItL} (h : Ows w base xs L) (hB : Below w.heap.size w w') : Ows w' base xs L := ⟨h.len, fun i x it hx hi => by
  obtain ⟨a, b, c, d⟩ := h.at_ i x it hx hi
  exact ⟨a.ext hB, b, c, d⟩⟩
theorem Ows.chg {S : Nat → Prop} {w w' : World} {base : Nat} {xs : List T_script_Item} {L : List ItL} (h : Ows w base xs L) (hc : Chg S w w') (hn : ∀ (i : Nat) x, xs[i]? = some x → ∀ k, x.Feed.blk = some k → ¬ S k) : Ows w' base xs L := ⟨h.len, fun i x it hx hi => by
  obtain ⟨a, b, c, d⟩ := h.at_ i x it hx hi
  exact ⟨a.chg hc (hn i x hx), b, c, d⟩⟩
theorem Ows.ne_row {w : World} {base b' : Nat} {xs : List T_script_Item} {L : List ItL} (h : Ows w base xs L) {E : El T_script_Item} (hE : E_uint8.t ≠ E.t) {s : Slc} {zs : List T_script_Item} (hs : Go.Vc.Own E w b' s zs) : ∀ (i : Nat) x, xs[i]? = some x → ∀ k, x.Feed.blk = some k → s.blk ≠ some k := fun i x hx k hk => by
  have hi : i < xs.length := (List.getElem?_eq_some_iff.1 hx).1
  have hl := h.len
  exact own_ne_row (h.at_ i x _ hx (List.getElem?_eq_getElem (by omega : i < L.length))).f hs hE k hk
/-- The program's row, the last feed apart from all the others. -/
structure JI (w0 w1 : World) (s : Slc) (M : List ItL) : Prop where
  ex : ∃ ys B, w0.heap.size ≤ B ∧ B ≤ w1.heap.size ∧ Go.Vc.Own E_script_Item w1 w0.heap.size s ys ∧ Ows w1 w0.heap.size ys M ∧
    (∀ (j : Nat) y, ys[j]? = some y → j + 1 < ys.length → ∀ k, y.Feed.blk = some k → k < B) ∧ (∀ y it, ys[ys.length - 1]? = some y → M[ys.length - 1]? = some it → Go.Vc.Own E_uint8 w1 B y.Feed it.f)
section
variable {w : World}
theorem SClone_spec {s : Slc} {bs : List UInt8} (hs : Rd E_uint8 w s bs) (hl : bs.length ≤ 100000000) {K : Slc → World → Prop} (hK : ∀ q w', Go.Vc.Own E_uint8 w' w.heap.size q bs → Below w.heap.size w w' → K q w') : c_slices_Clone_byte_byte s w K := by
  refine call_slices_Clone_byte_byte _ ?_
  unfold sh_slices_Clone_byte_byte
  cases ha : s.a with
  | none =>
    have hn := hs.none_nil ha
    subst hn
    exact cond_t rfl (hK _ w (Own.nil _ _ _) (Below.refl _ _))
  | some a =>
    refine cond_f rfl (nw_blk fun w1 hb1 hB1 hs1 => ?_)
    refine apK_own (E := E_uint8) (base := w.heap.size) (xs := []) sT_sl_uint8 (own_empty hb1 (Nat.le_refl _)) (hs.ext hB1) (by omega) (by rw [by_sl_uint8]; simp; omega) (by simp; unfold maxLen; omega) fun q w2 ho hg hr => hK q w2 ho (hB1.grown hg (by omega) fun k hk => by cases hk; exact Nat.le_refl _)
/-- One item more. -/
theorem JI.snoc {w0 w3 : World} {r : Slc} {M : List ItL} {ys : List T_script_Item} {x : T_script_Item} {it : ItL} {B : Nat} (hB0 : w0.heap.size ≤ B) (hs : B ≤ w3.heap.size)
    (hr : Go.Vc.Own E_script_Item w3 w0.heap.size r (ys ++ [x])) (ho : Ows w3 w0.heap.size ys M) (hlt : ∀ (j : Nat) y, ys[j]? = some y → ∀ k, y.Feed.blk = some k → k < B) (hf : Go.Vc.Own E_uint8 w3 B x.Feed it.f) (hz : x.Size = it.z) (hrr : x.Rows = it.r) (hc : x.Cols = it.c) : JI w0 w3 r (M ++ [it]) := by
  refine ⟨ys ++ [x], B, hB0, hs, hr, ho.snoc ⟨hf.base hB0, hz, hrr, hc⟩, fun j y hy hj => ?_, fun y jt hy hj => ?_⟩
  · rw [List.length_append, List.length_singleton] at hj
    rw [List.getElem?_append_left (by omega)] at hy
    exact hlt j y hy
  · have hl := ho.len
    rw [List.length_append, List.length_singleton, Nat.add_sub_cancel] at hy hj
    rw [List.getElem?_append_right (Nat.le_refl _), Nat.sub_self] at hy
    rw [hl, List.getElem?_append_right (Nat.le_refl _), Nat.sub_self] at hj
    cases hy
    cases hj
    exact hf
end
end Go.Proofs.YtpadlibcalomnaaDoor
