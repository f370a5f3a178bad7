/- Plain laws of grids: what stays true of a grid that is played with. -/
import Derived.Test.YtgejghejnibocaaDoorR4
import Derived.Test.YtgejghejnibocaaDoorOpen2
namespace Go.Proofs.YtgejghejnibocaaDoor
open Go.Vc Go.RowKit

structure GSok (S : GS) (T : Int) : Prop where
  len : S.L.length = S.rows
  rows : 1 ≤ S.rows ∧ S.rows ≤ 1000
  cols : 1 ≤ S.cols ∧ S.cols ≤ 1000
  L : ∀ xs ∈ S.L, rightB xs = true ∧ xs.length = S.cols ∧ okR xs
  old : ∀ xs ∈ S.old, xs.length ≤ 1000 ∧ okR xs
  olen : S.old.length ≤ S.most
  most : S.most ≤ 16384
  top : 0 ≤ S.top ∧ S.top ≤ T

theorem right_res (xs : List Cell) (n : Int) : rightB (resL xs n) = true := by
  unfold resL
  dsimp only
  split
  · exact right_mend _
  · exact right_pad (right_mend _) _ _
theorem resL_right {xs : List Cell} (h : rightB xs = true) (hl : xs.length ≤ 1000) : resL xs xs.length = xs := by
  have e : min 1000 (max 0 ((xs.length : Nat) : Int)) = xs.length := by omega
  unfold resL
  dsimp only
  rw [e, if_pos (Int.le_refl _), mend_id h, Int.toNat_natCast, List.take_length, mend_id h]
theorem newL_good {n : Nat} (h : n ≤ 1000) (a : Attr) : rightB (newL n a) = true ∧ (newL n a).length = n ∧ okR (newL n a) := by
  refine ⟨right_new _ _, newL_length h a, ?_⟩
  rw [newL_eq h]
  exact okR_blanks _ _
theorem res_good {xs : List Cell} {n : Nat} (h0 : n ≤ 1000) (h : okR xs) : rightB (resL xs n) = true ∧ (resL xs n).length = n ∧ okR (resL xs n) := by
  refine ⟨right_res _ _, ?_, okR_res h _⟩
  rw [resL_length]
  omega

theorem pushL_mem {most : Nat} {old : List (List Cell)} {x y : List Cell} (h : y ∈ pushL most old x) : y ∈ old ∨ y = x := by
  unfold pushL at h
  split at h
  · exact .inl h
  · split at h
    · rcases List.mem_append.1 h with h | h
      · exact .inl h
      · exact .inr (List.mem_singleton.1 h)
    · rcases List.mem_append.1 h with h | h
      · exact .inl (List.mem_of_mem_tail h)
      · exact .inr (List.mem_singleton.1 h)
theorem pushAll_mem {most : Nat} (xs : List (List Cell)) : ∀ {old : List (List Cell)} {y : List Cell}, y ∈ pushAll most old xs → y ∈ old ∨ y ∈ xs := by
  induction xs with
  | nil => intro old y h; exact .inl h
  | cons x r ih =>
    intro old y h
    rcases ih (old := pushL most old x) h with h | h
    · rcases pushL_mem h with h | h
      · exact .inl h
      · exact .inr (by simp [h])
    · exact .inr (by simp [h])

section
variable {S : GS} {T : Int}
theorem GSok.set (h : GSok S T) (i : Nat) {xs : List Cell} (hx : rightB xs = true ∧ xs.length = S.cols ∧ okR xs) : GSok { S with L := S.L.set i xs } T := by
  refine ⟨by show (S.L.set i xs).length = _; rw [List.length_set]; exact h.len, h.rows, h.cols, fun ys hy => ?_, h.old, h.olen, h.most, h.top⟩
  rcases List.mem_or_eq_of_mem_set hy with hy | hy
  · exact h.L ys hy
  · rw [hy]; exact hx
theorem GSok.mono (h : GSok S T) {T' : Int} (hT : T ≤ T') : GSok S T' := ⟨h.len, h.rows, h.cols, h.L, h.old, h.olen, h.most, h.top.1, by have := h.top.2; omega⟩
theorem GSok.clear (h : GSok S T) (a : Attr) : GSok { S with L := List.replicate S.rows (newL S.cols a) } T := by
  refine ⟨by simp, h.rows, h.cols, fun ys hy => ?_, h.old, h.olen, h.most, h.top⟩
  rw [List.eq_of_mem_replicate hy]
  exact newL_good h.cols.2 a
theorem GSok.forget (h : GSok S T) : GSok { S with old := [] } T := ⟨h.len, h.rows, h.cols, h.L, (fun xs hx => by cases hx), Nat.zero_le _, h.most, h.top⟩
theorem scrollL_mem {cols : Nat} {L : List (List Cell)} {top past n : Int} {a : Attr} {xs : List Cell} (h : xs ∈ scrollL cols L top past n a) : xs ∈ L ∨ xs = newL cols a := by
  unfold scrollL at h
  dsimp only at h
  split at h
  · simp only [List.mem_append] at h
    rcases h with ((h | h) | h) | h
    · exact .inl (List.mem_of_mem_take h)
    · exact .inl (List.mem_of_mem_take (List.mem_of_mem_drop h))
    · exact .inr (List.eq_of_mem_replicate h)
    · exact .inl (List.mem_of_mem_drop h)
  · simp only [List.mem_append] at h
    rcases h with ((h | h) | h) | h
    · exact .inl (List.mem_of_mem_take h)
    · exact .inr (List.eq_of_mem_replicate h)
    · exact .inl (List.mem_of_mem_take (List.mem_of_mem_drop h))
    · exact .inl (List.mem_of_mem_drop h)
theorem GSok.scroll (h : GSok S T) (top past n : Int) (a : Attr) (hT : T ≤ 1000000000) : GSok (scrollG S top past n a) (T + 1000) := by
  obtain ⟨hl, hr, hc, hm⟩ := scrollG_length (top := top) (past := past) (n := n) (a := a) h.len
  have hold := scrollG_old (top := top) (past := past) (n := n) (a := a) h.olen
  refine ⟨by rw [hl, hr], by rw [hr]; exact h.rows, by rw [hc]; exact h.cols, fun xs hx => ?_, fun xs hx => ?_, by rw [hm]; exact hold, by rw [hm]; exact h.most, ?_⟩
  · rw [hc]
    have : xs ∈ S.L ∨ xs = newL S.cols a := by
      unfold scrollG at hx
      split at hx
      · exact .inl hx
      · split at hx <;> exact scrollL_mem hx
    rcases this with hx | rfl
    · exact h.L xs hx
    · exact newL_good h.cols.2 a
  · have : xs ∈ S.old ∨ xs ∈ S.L := by
      unfold scrollG at hx
      split at hx
      · exact .inl hx
      · split at hx
        · rcases pushAll_mem _ hx with hx | hx
          · exact .inl hx
          · exact .inr (List.mem_of_mem_take hx)
        · exact .inl hx
    rcases this with hx | hx
    · exact h.old xs hx
    · obtain ⟨_, h2, h3⟩ := h.L xs hx
      exact ⟨by rw [h2]; exact h.cols.2, h3⟩
  · have h1 := h.top
    have h2 := h.rows
    unfold scrollG
    split
    · exact ⟨h1.1, by omega⟩
    · next hb =>
      split
      · have hb : ¬ scrollBad S.rows top past n := hb
        unfold scrollBad at hb
        have hm : scrollM top past n ≤ 1000 := by unfold scrollM; omega
        show 0 ≤ IntKind.i64.wrap (S.top + (scrollM top past n : Nat)) ∧ IntKind.i64.wrap (S.top + (scrollM top past n : Nat)) ≤ T + 1000
        rw [wrap64_id (by omega)]
        omega
      · exact ⟨h1.1, by show S.top ≤ _; omega⟩
theorem GSok.resize (h : GSok S T) {rows cols : Nat} {row : Int} (hr : 1 ≤ rows ∧ rows ≤ 1000) (hc : 1 ≤ cols ∧ cols ≤ 1000) (hT : T ≤ 1000000000) : GSok (resizeG S rows cols row) (T + 1000) := by
  have h1 : GSok (resize1 S cols) T := by
    refine ⟨by show (S.L.map _).length = S.rows; rw [List.length_map]; exact h.len, h.rows, hc, fun xs hx => ?_, h.old, h.olen, h.most, h.top⟩
    obtain ⟨ys, hy, rfl⟩ := List.mem_map.1 hx
    exact res_good hc.2 (h.L ys hy).2.2
  have h2 : GSok (resize2 S rows cols row) (T + 1000) := by
    unfold resize2
    split
    · exact h1.scroll _ _ _ _ hT
    · exact h1.mono (by omega)
  have e : (resize2 S rows cols row).rows = S.rows ∧ (resize2 S rows cols row).cols = cols := by
    unfold resize2
    split
    · have := scrollG_length (top := 0) (past := S.rows) (n := row + 1 - rows) (a := ⟨0, 0, 0⟩) h1.len
      exact ⟨this.2.1, this.2.2.1⟩
    · exact ⟨rfl, rfl⟩
  unfold resizeG
  generalize resize2 S rows cols row = S2 at *
  refine ⟨?_, hr, by show 1 ≤ S2.cols ∧ S2.cols ≤ 1000; exact h2.cols, fun xs hx => ?_, h2.old, h2.olen, h2.most, h2.top⟩
  · show (S2.L.take rows ++ List.replicate (rows - S.rows) (newL cols ⟨0, 0, 0⟩)).length = rows
    have := h2.len
    simp
    omega
  · have hx : xs ∈ S2.L.take rows ++ List.replicate (rows - S.rows) (newL cols ⟨0, 0, 0⟩) := hx
    rcases List.mem_append.1 hx with hx | hx
    · exact h2.L xs (List.mem_of_mem_take hx)
    · rw [List.eq_of_mem_replicate hx]
      show _ ∧ _ = S2.cols ∧ _
      rw [e.2]
      exact newL_good hc.2 _
theorem GSok.new {rows cols most : Nat} (hr : 1 ≤ rows ∧ rows ≤ 1000) (hc : 1 ≤ cols ∧ cols ≤ 1000) (hm : most ≤ 16384) : GSok (gs0 rows cols most) 0 := by
  refine ⟨by simp [gs0], hr, hc, fun xs hx => ?_, (fun xs hx => by cases hx), Nat.zero_le _, hm, Int.le_refl _, Int.le_refl _⟩
  rw [List.eq_of_mem_replicate hx]
  exact newL_good hc.2 _
end

/-! ### Which blocks are whose -/
theorem GridM.ty {w : World} {base : Nat} {f : Foot} {S : GS} (h : GridM w base f S) : ∀ k, gridS f k → ∃ t cs, Blk w k t cs ∧ (t = 118 ∨ t = 140 ∨ t = 25) := by
  obtain ⟨ls, ho, hl⟩ := h.row
  obtain ⟨at_, gone, ls', xss, hb, ho', hl', hbr, e, hm, ha⟩ := h.ring
  rintro k (rfl | rfl | hk | hk)
  · exact ⟨_, _, h.blk, .inl rfl⟩
  · exact ⟨_, _, hb, .inr (.inl rfl)⟩
  · obtain ⟨cs, hcs⟩ := ho.blk_t hk
    exact ⟨_, _, hcs, .inr (.inr rfl)⟩
  · obtain ⟨cs, hcs⟩ := ho'.blk_t hk
    exact ⟨_, _, hcs, .inr (.inr rfl)⟩
theorem RefM.ty {w : World} {base : Nat} {f : RFoot} {S : GS} (h : RefM w base f S) : ∀ k, refS f k → ∃ t cs, Blk w k t cs ∧ (t = 88 ∨ t = 24) := by
  obtain ⟨ls, ho, hl⟩ := h.row
  obtain ⟨os, ho', hl'⟩ := h.old
  rintro k (rfl | hk | hk)
  · exact ⟨_, _, h.blk, .inl rfl⟩
  · obtain ⟨cs, hcs⟩ := ho.blk_t hk
    exact ⟨_, _, hcs, .inr rfl⟩
  · obtain ⟨cs, hcs⟩ := ho'.blk_t hk
    exact ⟨_, _, hcs, .inr rfl⟩
/-- What turns within the program's grid leaves the reference's alone, and the other way round; and what is of the type 80. -/
theorem ref_stays {w w' : World} {base base' : Nat} {f : Foot} {S S' : GS} {f' : RFoot} (h : GridM w base f S) (h' : RefM w base' f' S') (hc : Chg (gridS f) w w') : RefM w' base' f' S' := by
  refine h'.chg hc (fun k hk hs => ?_) fun k cs hs hcs => h.notC k cs hs hcs
  obtain ⟨t, cs, hb, ht⟩ := h'.ty k hk
  obtain ⟨t', cs', hb', ht'⟩ := h.ty k hs
  exact hb.ne_t hb' (by rcases ht with rfl | rfl <;> rcases ht' with rfl | rfl | rfl <;> decide) rfl
theorem grid_stays {w w' : World} {base base' : Nat} {f : Foot} {S S' : GS} {f' : RFoot} (h : GridM w base f S) (h' : RefM w base' f' S') (hc : Chg (refS f') w w') : GridM w' base f S := by
  refine h.chg hc (fun k hk hs => ?_) fun k cs hs hcs => h'.notC k cs hs hcs
  obtain ⟨t, cs, hb, ht⟩ := h'.ty k hs
  obtain ⟨t', cs', hb', ht'⟩ := h.ty k hk
  exact hb.ne_t hb' (by rcases ht with rfl | rfl <;> rcases ht' with rfl | rfl | rfl <;> decide) rfl
theorem blk_grid {w w' : World} {base : Nat} {f : Foot} {S : GS} {g : Nat} {cs : List Value} (h : GridM w base f S) (hb : Blk w g 80 cs) (hc : Chg (gridS f) w w') : Blk w' g 80 cs :=
  hb.chg hc fun hs => by
    obtain ⟨t', cs', hb', ht'⟩ := h.ty g hs
    exact hb.ne_t hb' (by rcases ht' with rfl | rfl | rfl <;> decide) rfl
theorem blk_ref {w w' : World} {base : Nat} {f : RFoot} {S : GS} {g : Nat} {cs : List Value} (h : RefM w base f S) (hb : Blk w g 80 cs) (hc : Chg (refS f) w w') : Blk w' g 80 cs :=
  hb.chg hc fun hs => by
    obtain ⟨t', cs', hb', ht'⟩ := h.ty g hs
    exact hb.ne_t hb' (by rcases ht' with rfl | rfl <;> decide) rfl
theorem ref_below {w w0 w' : World} {base B : Nat} {f : RFoot} {S : GS} (h : RefM w base f S) (hb : Below B w0 w) (hB : B ≤ base) (hw0 : base ≤ w.heap.size) (hc : Chg (refS f) w w') : Below B w0 w' :=
  hb.trans (hc.below (by omega) fun i hi hs => by have := (h.below i hs).1; omega)

end Go.Proofs.YtgejghejnibocaaDoor
