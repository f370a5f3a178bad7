/- Rings of lines: Push, Clear. -/
import Derived.Test.YtgejghejnibocaaDoorG1
namespace Go.Proofs.YtgejghejnibocaaDoor
open Go.Vc Go.RowKit

def pushL (most : Nat) (old : List (List Cell)) (x : List Cell) : List (List Cell) := if most = 0 then old else if old.length < most then old ++ [x] else old.tail ++ [x]

/-- The ring's own blocks. -/
def ringS (r : Nat) (s : Slc) (k : Nat) : Prop := k = r ∨ s.blk = some k

theorem even_none {r : Nat} {vs : List Value} {w : World} {K : World → Prop} (hb : Blk w r 140 vs) (h2 : vs[2]? = some (.int .i64 0)) (hK : K w) : c_ring_Ring_line_Line_even (some ⟨r, 0, none⟩) w K := by
  refine call_ring_Ring_line_Line_even _ ?_
  unfold sh_ring_Ring_line_Line_even
  rw [onPtr_some]
  refine ldI_of (x := 0) (hb.cells 2 _ h2) ?_
  exact cond_f rfl hK

theorem ring_ne {w : World} {base r : Nat} {s : Slc} {ls : List Slc} {vs : List Value} (ho : Own slE w base s ls) (hb : Blk w r 140 vs) : ∀ k, s.blk = some k → k ≠ r := by
  intro k hk
  obtain ⟨cs, hcs⟩ := ho.blk_t hk
  exact hcs.ne_t hb (by decide)

theorem Push_spec {base r most : Nat} {s t : Slc} {old : List (List Cell)} {xs : List Cell} {w : World} {K : Slc → Bool → World → Prop} (h : RingM w base r s most old) (ht : Own cellE w base t xs) (hmost : most ≤ 100000) (hbase : base ≤ w.heap.size)
    (hK : ∀ u b s' w', RingM w' base r s' most (pushL most old xs) → Chg (ringS r s) w w' → (s'.blk = s.blk ∨ ∃ k, s'.blk = some k ∧ w.heap.size ≤ k) → K u b w') : c_ring_Ring_line_Line_Push (some ⟨r, 0, none⟩) t w K := by
  obtain ⟨at_, gone, ls, xss, hb, ho, hl, hbr, e, hm, ha⟩ := h
  refine call_ring_Ring_line_Line_Push _ _ ?_
  unfold sh_ring_Ring_line_Line_Push
  simp only [onPtr_some]
  have hsn : s.n = ls.length := ho.rd.n
  have hll := hl.1
  have hol : old.length = xss.length := by rw [e, List.length_append, List.length_drop, List.length_take]; omega
  have notC : ∀ k cs, ringS r s k → ¬ Blk w k 42 cs := by
    rintro k cs (rfl | hk) hc
    · exact hc.ne_t hb (by decide) rfl
    · obtain ⟨cs', hcs'⟩ := ho.blk_t hk
      exact hc.ne_t hcs' (by decide) rfl
  refine ldI_of (x := (most : Int)) (hb.cells 0 _ rfl) ?_
  refine cond_of (fun h0 => ?_) (fun h0 => ?_)
  · have h0 : most = 0 := by have := eq_of_beq h0; omega
    refine ldI_of (x := gone) (hb.cells 3 _ rfl) ?_
    rw [add_mk]
    refine stK_blk hb (by simp) fun w1 hb1 hg1 hs1 => ?_
    have hc1 : Chg (ringS r s) w w1 := Chg.of_grown hg1 fun k hk => by cases hk; exact .inl rfl
    refine hK _ _ s w1 ⟨at_, _, ls, xss, hb1, ho.kept hg1 (.inr fun ee => ring_ne ho hb _ ee rfl), hl.chg hc1 notC, hbr, ?_, hm, ha⟩ hc1 (.inl rfl)
    rw [pushL, if_pos h0]
    exact e
  · have h0 : most ≠ 0 := by have := beq_eq_false_iff_ne.1 h0; omega
    have hbd := hb.drew
    refine ldSl_of (x := s) (hbd.cells 1 _ rfl) ?_
    refine ldI_of (x := (most : Int)) (hbd.cells 0 _ rfl) ?_
    refine cond_of (fun h1 => ?_) (fun h1 => ?_)
    · have h1 := of_decide_eq_true h1
      have hat : at_ = 0 := by rcases ha with h | ⟨_, h⟩ <;> omega
      subst hat
      refine even_none hbd rfl ?_
      refine ldSl_of (x := s) (hbd.cells 1 _ rfl) ?_
      refine nw_blk fun w3 hb3 hB3 hs3 => ?_
      have hr3 : Rd slE w3 ⟨some ⟨w.drew.heap.size, 0, none⟩, 1, 1⟩ [t] := rd_one (E := slE) hb3 rfl
      have hB03 : Below w.heap.size w w3 := (Below.refl _ w).drew.trans hB3
      refine apK_own slT116 (ho.ext hB03) hr3 (by have := hB03.size; omega) (by rw [by116]; simp; omega) (by simp [maxLen]; omega) fun q w4 ho4 hg4 hq4 => ?_
      have hb3r := hb.ext hB03
      have hb4 := hb3r.grown hg4 fun ee => ring_ne ho hb _ ee.symm rfl
      rw [add_mk]
      refine stK_blk hb4 (by simp) fun w5 hb5 hg5 hs5 => ?_
      have hc : Chg (ringS r s) w w5 := ((Chg.of_ext (S := ringS r s) hB03).trans (S' := fun k => s.blk = some k) (Chg.of_grown hg4 fun k hk => hk) fun i _ hi => .inr hi).trans (S' := fun k => k = r) (Chg.of_grown hg5 fun k hk => by cases hk; rfl) fun i _ hi => .inl hi
      refine hK _ _ q w5 ⟨0, gone, ls ++ [t], xss ++ [xs], hb5, ho4.kept hg5 (.inr fun ee => ring_ne ho4 hb4 _ ee rfl), (hl.chg hc notC).append (Lines.one (ht.chg hc fun g hg hs => ?_)), hbr, ?_, ?_, .inl rfl⟩ hc ?_
      · obtain ⟨cs, hcs⟩ := ht.blk_t hg
        exact notC g cs hs hcs
      · rw [pushL, if_neg h0, if_pos (by omega), e]
        simp
      · simp; omega
      · rcases hq4 with hh | hh
        · exact .inl hh
        · exact .inr ⟨_, hh, hB03.size⟩
    · have h1 := of_decide_eq_false h1
      have hfull : xss.length = most := by omega
      have hatl : at_ < ls.length := by rcases ha with h | ⟨h, _⟩ <;> omega
      have hbdd : Blk w.drew.drew r 140 _ := hb
      have hod : Own slE w.drew.drew base s ls := ho
      refine ldSl_of (x := s) (hbdd.cells 1 _ rfl) ?_
      refine ldI_of (x := (at_ : Int)) (hbdd.cells 2 _ rfl) ?_
      refine hod.rd.ix rfl (by omega) (by omega) fun hc => ?_
      refine ldSl_of (x := ls[at_]) (by simpa using hc 0 _ rfl) ?_
      have hbddd : Blk w.drew.drew.drew r 140 _ := hb
      have hoddd : Own slE w.drew.drew.drew base s ls := ho
      refine ldSl_of (x := s) (hbddd.cells 1 _ rfl) ?_
      refine ldI_of (x := (at_ : Int)) (hbddd.cells 2 _ rfl) ?_
      refine hoddd.rd.ix rfl (by omega) (by omega) fun _ => ?_
      refine hoddd.st0 (x := ls[at_]) (y := t) (by rw [show ((at_ : Int)).toNat = at_ from rfl]; exact List.getElem?_eq_getElem _) rfl fun w6 ho6 hg6 hs6 => ?_
      rw [show ((at_ : Int)).toNat = at_ from rfl] at ho6
      have hb6 : Blk w6 r 140 _ := hbddd.grown hg6 fun ee => ring_ne ho hb _ ee.symm rfl
      have hc6 : Chg (ringS r s) w w6 := ⟨hg6.os, hg6.tape, hg6.output, hg6.size, fun k hk hn => hg6.block k hk fun ee => hn (.inr ee.symm)⟩
      have hbd6 := hb6.drew
      refine ldI_of (x := (at_ : Int)) (hbd6.cells 2 _ rfl) ?_
      refine ldSl_of (x := s) (hbd6.cells 1 _ rfl) ?_
      refine ⟨by omega, ?_⟩
      rw [add_mk]
      refine stK_blk hbd6 (by simp) fun w7 hb7 hg7 hs7 => ?_
      refine ldI_of (x := gone) (hb7.cells 3 _ rfl) ?_
      rw [add_mk]
      refine stK_blk hb7 (by rw [putL_length]; simp) fun w8 hb8 hg8 hs8 => ?_
      have hc7 : Chg (fun k => k = r) w6 w7 := ⟨hg7.os, hg7.tape, hg7.output, hg7.size, fun k hk hn => hg7.block k hk fun ee => hn (by cases ee; rfl)⟩
      have hc8 : Chg (fun k => k = r) w7 w8 := Chg.of_grown hg8 fun k hk => by cases hk; rfl
      have hc : Chg (ringS r s) w w8 := (hc6.trans hc7 fun i _ hi => .inl hi).trans hc8 fun i _ hi => .inl hi
      have ho7 : Own slE w7 base s (ls.set at_ t) := ho6.chg hc7 fun g hg => ring_ne ho hb g hg
      have ho8 : Own slE w8 base s (ls.set at_ t) := ho7.chg hc8 fun g hg => ring_ne ho hb g hg
      have ht8 : Own cellE w8 base t xs := ht.chg hc fun g hg hs => by
        obtain ⟨cs, hcs⟩ := ht.blk_t hg
        exact notC g cs hs hcs
      have hl8 := (hl.chg hc notC).set at_ ht8
      have hmod : (IntKind.i64.wrap ((at_ : Int) + 1)).tmod ((s.n : Nat) : Int) = (((at_ + 1) % xss.length : Nat) : Int) := by
        rw [wrap64_id (by omega), hsn, hll, Int.tmod_eq_emod_of_nonneg (by omega), Int.natCast_emod, Int.natCast_add]
        rfl
      have htail : xss.drop at_ = xss[at_] :: xss.drop (at_ + 1) := List.drop_eq_getElem_cons (by omega)
      have hpush : pushL most old xs = xss.drop (at_ + 1) ++ xss.take at_ ++ [xs] := by
        rw [pushL, if_neg h0, if_neg (by omega), e, htail, List.cons_append, List.tail_cons]
      refine hK _ _ s w8 ⟨(at_ + 1) % xss.length, IntKind.i64.wrap (gone + 1), ls.set at_ t, xss.set at_ xs, ?_, ho8, hl8, hbr, ?_, by simp; omega, ?_⟩ hc (.inl rfl)
      · rw [← hmod]
        exact hb8
      · rw [hpush]
        by_cases hend : at_ + 1 = xss.length
        · rw [hend, Nat.mod_self, List.drop_length]
          simp only [List.nil_append, List.drop_zero, List.take_zero, List.append_nil]
          rw [List.set_eq_take_append_cons_drop, if_pos (by omega), hend, List.drop_length]
        · rw [Nat.mod_eq_of_lt (by omega), List.drop_set_of_lt (by omega), List.append_assoc]
          congr 1
          rw [List.take_set, List.set_eq_take_append_cons_drop, if_pos (by simp; omega), List.take_take, Nat.min_eq_left (by omega), List.drop_take, Nat.sub_self]
          simp
      · by_cases hend : at_ + 1 = xss.length
        · exact .inl (by rw [hend, Nat.mod_self])
        · exact .inr ⟨by rw [Nat.mod_eq_of_lt (by omega)]; simp; omega, by simp; omega⟩

theorem RingClear_spec {base r most : Nat} {s : Slc} {old : List (List Cell)} {w : World} {K : World → Prop} (h : RingM w base r s most old)
    (hK : ∀ w', RingM w' base r ⟨none, 0, 0⟩ most [] → Chg (ringS r s) w w' → K w') : c_ring_Ring_line_Line_Clear (some ⟨r, 0, none⟩) w K := by
  obtain ⟨at_, gone, ls, xss, hb, ho, hl, hbr, e, hm, ha⟩ := h
  refine call_ring_Ring_line_Line_Clear _ ?_
  unfold sh_ring_Ring_line_Line_Clear
  simp only [onPtr_some]
  have hbd := hb.drew
  refine ldI_of (x := gone) (hbd.cells 3 _ rfl) ?_
  refine ldSl_of (x := s) (hbd.cells 1 _ rfl) ?_
  rw [add_mk]
  refine stK_blk hbd (by simp) fun w1 hb1 hg1 hs1 => ?_
  rw [add_mk]
  refine stK_blk hb1 (by rw [putL_length]; simp) fun w2 hb2 hg2 hs2 => ?_
  rw [add_mk]
  refine stK_blk hb2 (by rw [putL_length, putL_length]; simp) fun w3 hb3 hg3 hs3 => ?_
  have hc1 : Chg (ringS r s) w w1 := ⟨hg1.os, hg1.tape, hg1.output, hg1.size, fun k hk hn => hg1.block k hk fun ee => hn (by cases ee; exact .inl rfl)⟩
  have hc2 : Chg (fun k => k = r) w1 w2 := Chg.of_grown hg2 fun k hk => by cases hk; rfl
  have hc3 : Chg (fun k => k = r) w2 w3 := Chg.of_grown hg3 fun k hk => by cases hk; rfl
  exact hK w3 ⟨0, _, [], [], hb3, Own.nil _ _ _, Lines.nil _ _, hbr, rfl, by simp, .inl rfl⟩ ((hc1.trans hc2 fun i _ hi => .inl hi).trans hc3 fun i _ hi => .inl hi)

end Go.Proofs.YtgejghejnibocaaDoor
