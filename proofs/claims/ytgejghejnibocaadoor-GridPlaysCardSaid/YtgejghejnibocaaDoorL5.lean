/- What the reference's writing functions of lines come to: over, Put, count, Insert, Delete, Erase, Resize. -/
import Derived.Test.YtgejghejnibocaaDoorL4
namespace Go.Proofs.YtgejghejnibocaaDoor
open Go.Vc Go.RowKit

def over1 (m : List Cell) (from_ : Int) : List Cell := if 0 < from_ ∧ from_ < m.length ∧ kindAt m from_ = 2 then m.set (from_ - 1).toNat (blankC (m.getD (from_ - 1).toNat default).A) else m
def over2 (m : List Cell) (to : Int) : List Cell := if 0 < to ∧ to < m.length ∧ kindAt m to = 2 then m.set to.toNat (blankC (m.getD to.toNat default).A) else m
def overL (m : List Cell) (from_ to : Int) : List Cell := over2 (over1 m from_) to
def putR (xs : List Cell) (col r width : Int) (a : Attr) : List Cell := if badPut xs.length col width then mendL xs else wrotL (overL (mendL xs) col (col + width)) col r width a
def insR (xs : List Cell) (col k : Int) (a : Attr) : List Cell :=
  let m := mendL xs
  let c := manyL xs.length col k
  if c = 0 then m else mendL ((m.take col.toNat ++ List.replicate c.toNat (blankC a) ++ m.drop col.toNat).take xs.length)
def eraR (xs : List Cell) (from_ to : Int) (a : Attr) : List Cell :=
  let lo := max 0 from_
  let hi := min (xs.length : Int) to
  if lo ≥ hi then mendL xs else fillL (overL (mendL xs) lo hi) lo.toNat hi.toNat (blankC a)
def resR (xs : List Cell) (cols : Int) : List Cell :=
  let m := mendL xs
  let c := min 1000 (max 0 cols)
  if c < xs.length then mendL (m.take c.toNat) else mendL (m ++ List.replicate (c - xs.length).toNat (blankC ⟨0, 0, 0⟩))

theorem over1_length (xs : List Cell) (i : Int) : (over1 xs i).length = xs.length := by
  unfold over1
  split <;> simp
theorem over2_length (xs : List Cell) (i : Int) : (over2 xs i).length = xs.length := by
  unfold over2
  split <;> simp
theorem overL_length (xs : List Cell) (i j : Int) : (overL xs i j).length = xs.length := by rw [overL, over2_length, over1_length]

theorem over_spec {l : Slc} {xs : List Cell} {from_ to : Int} {w : World} {K : Slc → World → Prop} (h : Rd cellE w l xs) (hl : xs.length ≤ 10000)
    (hK : ∀ s w', Own cellE w' w.heap.size s (overL (mendL xs) from_ to) → Below w.heap.size w w' → K s w') : c_phosphorref13_over l from_ to w K := by
  refine call_phosphorref13_over _ _ _ ?_
  unfold sh_phosphorref13_over
  refine rMend_spec h (by omega) fun m w1 ho1 hB1 => ?_
  have hml := mendL_length xs
  have hmn : m.n = xs.length := by have := ho1.rd.n; rwa [hml] at this
  refine joinP_of fun J1 hJ1 => joinP_of fun J3 hJ3 => ?_
  unfold overL at hK
  generalize mendL xs = ys at *
  -- behind the first write
  have second : ∀ w2, Own cellE w2 w.heap.size m (over1 ys from_) → Below w.heap.size w w2 → J1 () w2 := fun w2 ho2 hB2 => hJ1 _ _ (by
    have hl2 := over1_length ys from_
    generalize over1 ys from_ = zs at *
    refine joinP_of fun J2 hJ2 => ?_
    have no : ¬ (0 < to ∧ to < zs.length ∧ kindAt zs to = 2) → J2 (false, ()) w2 := fun hn => hJ2 _ _ (cond_f rfl (hK _ _ (by rw [over2, if_neg hn]; exact ho2) hB2))
    refine cond_of (fun h0 => ?_) (fun h0 => no fun hh => by have := of_decide_eq_false h0; omega)
    have h0 : to > 0 := of_decide_eq_true h0
    rw [hmn]
    refine cond_of (fun h1 => ?_) (fun h1 => no fun hh => by have := of_decide_eq_false h1; omega)
    have h1 := of_decide_eq_true h1
    refine ho2.rd.ix rfl (by omega) (by omega) fun hc => ?_
    refine ldI_of (cell_kind hc) ?_
    have hk : kindAt zs to = (zs[to.toNat]'(by omega)).Kind := kindAt_int (by omega) (by omega)
    by_cases h2 : (zs[to.toNat]'(by omega)).Kind = 2
    · rw [show ((zs[to.toNat]'(by omega)).Kind == 2) = true by simpa using h2]
      refine hJ2 _ _ (cond_t rfl ?_)
      refine ho2.rd.ix rfl (by omega) (by omega) fun hc => ?_
      refine ldS_of (x := (zs[to.toNat]'(by omega)).A) (cell_a hc) ?_
      refine rblank_spec fun w4 hB4 hs4 => ?_
      have ho4 := ho2.ext hB4
      refine ho4.rd.ix rfl (by omega) (by omega) fun _ => ?_
      refine ho4.st0 (x := zs[to.toNat]'(by omega)) (List.getElem?_eq_getElem _) (y := blankC (zs[to.toNat]'(by omega)).A) rfl fun w5 ho5 hg5 hs5 => ?_
      have hB4 : Below w.heap.size w w4 := hB2.trans (hB4.mono hB2.size)
      refine hK _ _ ?_ (hB4.grown hg5 hB4.size fun g hg => (ho2.lt g hg).1)
      rw [over2, if_pos ⟨h0, by omega, by rw [hk, h2]⟩]
      have e : zs.getD to.toNat default = zs[to.toNat]'(by omega) := by rw [List.getD_eq_getElem?_getD, List.getElem?_eq_getElem (by omega)]; rfl
      rw [e]
      exact ho5
    · rw [show ((zs[to.toNat]'(by omega)).Kind == 2) = false by simpa using h2]
      exact no fun hh => h2 (by rw [← hk]; exact hh.2.2))
  have no : ¬ (0 < from_ ∧ from_ < ys.length ∧ kindAt ys from_ = 2) → J3 (false, ()) w1 := fun hn => hJ3 _ _ (cond_f rfl (second _ (by rw [over1, if_neg hn]; exact ho1) hB1))
  refine cond_of (fun h0 => ?_) (fun h0 => no fun hh => by have := of_decide_eq_false h0; omega)
  have h0 : from_ > 0 := of_decide_eq_true h0
  rw [hmn]
  refine cond_of (fun h1 => ?_) (fun h1 => no fun hh => by have := of_decide_eq_false h1; omega)
  have h1 := of_decide_eq_true h1
  refine ho1.rd.ix rfl (by omega) (by omega) fun hc => ?_
  refine ldI_of (cell_kind hc) ?_
  have hk : kindAt ys from_ = (ys[from_.toNat]'(by omega)).Kind := kindAt_int (by omega) (by omega)
  by_cases h2 : (ys[from_.toNat]'(by omega)).Kind = 2
  · rw [show ((ys[from_.toNat]'(by omega)).Kind == 2) = true by simpa using h2]
    refine hJ3 _ _ (cond_t rfl ?_)
    rw [wrap64_id (by omega)]
    refine ho1.rd.ix rfl (by omega) (by omega) fun hc => ?_
    refine ldS_of (x := (ys[(from_ - 1).toNat]'(by omega)).A) (cell_a hc) ?_
    refine rblank_spec fun w4 hB4 hs4 => ?_
    have ho4 := ho1.ext hB4
    refine ho4.rd.ix rfl (by omega) (by omega) fun _ => ?_
    refine ho4.st0 (x := ys[(from_ - 1).toNat]'(by omega)) (List.getElem?_eq_getElem _) (y := blankC (ys[(from_ - 1).toNat]'(by omega)).A) rfl fun w5 ho5 hg5 hs5 => ?_
    have hB4 : Below w.heap.size w w4 := hB1.trans (hB4.mono hB1.size)
    refine second _ ?_ (hB4.grown hg5 hB4.size fun g hg => (ho1.lt g hg).1)
    rw [over1, if_pos ⟨h0, by omega, by rw [hk, h2]⟩]
    have e : ys.getD (from_ - 1).toNat default = ys[(from_ - 1).toNat]'(by omega) := by rw [List.getD_eq_getElem?_getD, List.getElem?_eq_getElem (by omega)]; rfl
    rw [e]
    exact ho5
  · rw [show ((ys[from_.toNat]'(by omega)).Kind == 2) = false by simpa using h2]
    exact no fun hh => h2 (by rw [← hk]; exact hh.2.2)

theorem rPut_spec {l : Slc} {xs : List Cell} {col r width : Int} {a : Attr} {w : World} {K : Slc → Bool → World → Prop} (h : Rd cellE w l xs) (hl : xs.length ≤ 10000)
    (hK : ∀ s w', Own cellE w' w.heap.size s (putR xs col (IntKind.i32.wrap r) width a) → Below w.heap.size w w' → K s (!decide (badPut xs.length col width)) w') : c_phosphorref13_Put l col r width a w K := by
  refine call_phosphorref13_Put _ _ _ _ _ ?_
  unfold sh_phosphorref13_Put
  refine nw_blk fun w1 hb1 hB1 hs1 => ?_
  have hml := mendL_length xs
  have hln : l.n = xs.length := h.n
  refine joinP_of fun J1 hJ1 => joinP_of fun J2 hJ2 => ?_
  have bad : badPut xs.length col width → J2 (true, ()) w1 := fun hb => hJ2 _ _ (cond_t rfl (by
    refine rMend_spec (h.ext hB1) (by omega) fun m w2 ho2 hB2 => ?_
    have := hK m w2 (by rw [putR, if_pos hb]; exact ho2.base (by omega)) (hB1.trans (hB2.mono (by omega)))
    rwa [decide_eq_true hb] at this))
  have good : ¬ badPut xs.length col width → J2 (false, ()) w1 := fun hg => hJ2 _ _ (cond_f rfl (hJ1 _ _ (by
    have hbad := hg
    unfold badPut at hg
    rw [wrap64_id (x := col + width) (by omega)]
    refine over_spec (h.ext hB1) hl fun m w2 ho2 hB2 => ?_
    have hB02 : Below w.heap.size w w2 := hB1.trans (hB2.mono (by omega))
    have hb2 := hb1.ext hB2
    have hmb : ∀ g, m.blk = some g → w.heap.size < g := fun g hg => by have := (ho2.lt g hg).1; omega
    have ho2 : Own cellE w2 w.heap.size m (overL (mendL xs) col (col + width)) := ho2.base (by omega)
    have hol := overL_length (mendL xs) col (col + width)
    have fin : ∀ {w5 : World}, Own cellE w5 w.heap.size m (wrotL (overL (mendL xs) col (col + width)) col (IntKind.i32.wrap r) width a) → Below w.heap.size w w5 → K m true w5 := fun {w5} ho5 hB5 => by
      have := hK m w5 (by rw [putR, if_neg hbad]; exact ho5) hB5
      rwa [decide_eq_false hbad] at this
    generalize overL (mendL xs) col (col + width) = ys at *
    have hx : ys[col.toNat]? = some (ys[col.toNat]'(by omega)) := List.getElem?_eq_getElem _
    refine ldS_of (x := a) hb2.cells ?_
    refine ho2.rd.ix rfl (by omega) (by omega) fun _ => ?_
    refine ho2.st0 hx (y := ⟨IntKind.i32.wrap r, 0, a⟩) rfl fun w4 ho4 hg4 hs4 => ?_
    have hB04 : Below w.heap.size w w4 := hB02.grown hg4 hB02.size fun g hg => (ho2.lt g hg).1
    have hb4 := hb2.grown hg4 (fun e => by have := hmb _ e.symm; omega)
    refine cond_of (fun h2 => ?_) (fun h2 => ?_)
    · have h2 := eq_of_beq h2
      subst h2
      refine ho4.rd.ix rfl (by omega) (by rw [List.length_set]; omega) fun _ => ?_
      refine ho4.st (x := ⟨IntKind.i32.wrap r, 0, a⟩) (y := ⟨IntKind.i32.wrap r, 1, a⟩) (by rw [List.getElem?_set_self (by omega)]) (j := 1) (by simp [cellE]) rfl fun w7 ho7 hg7 hs7 => ?_
      rw [List.set_set] at ho7
      have hB07 := hB04.grown hg7 hB04.size fun g hg => (ho2.lt g hg).1
      have hb7 := hb4.grown hg7 (fun e => by have := hmb _ e.symm; omega)
      refine ldS_of (x := a) hb7.cells ?_
      rw [wrap64_id (x := col + 1) (by omega)]
      refine ho7.rd.ix rfl (by omega) (by rw [List.length_set]; omega) fun _ => ?_
      refine ho7.st0 (x := (ys.set col.toNat ⟨IntKind.i32.wrap r, 1, a⟩)[(col + 1).toNat]'(by rw [List.length_set]; omega)) (List.getElem?_eq_getElem _) (y := ⟨0, 2, a⟩) rfl fun w8 ho8 hg8 hs8 => ?_
      refine fin ?_ (hB07.grown hg8 hB07.size fun g hg => (ho2.lt g hg).1)
      rw [wrotL, if_pos rfl]
      exact ho8
    · have h2 := beq_eq_false_iff_ne.1 h2
      refine fin ?_ hB04
      rw [wrotL, if_neg h2]
      exact ho4)))
  refine cond_of (fun h1 => bad (.inl (of_decide_eq_true h1))) (fun h1 => ?_)
  refine cond_of (fun h2 => bad (.inr (.inl (of_decide_eq_true h2)))) (fun h2 => ?_)
  refine cond_of (fun h3 => bad (.inr (.inr (.inl (of_decide_eq_true h3))))) (fun h3 => ?_)
  have h1 := of_decide_eq_false h1
  have h2 := of_decide_eq_false h2
  have h3 := of_decide_eq_false h3
  rw [hln, wrap64_id (by omega)]
  by_cases h4 : col > (xs.length : Int) - width
  · rw [decide_eq_true h4]; exact bad (.inr (.inr (.inr h4)))
  · rw [decide_eq_false h4]; exact good (by unfold badPut; omega)

theorem count_spec {l : Slc} {n : Nat} {col k : Int} {w : World} {K : Int → World → Prop} (hn : l.n = n) (hl : n ≤ 1000000) (hK : K (manyL n col k) w) : c_phosphorref13_count l col k w K := by
  refine call_phosphorref13_count _ _ _ ?_
  unfold sh_phosphorref13_count
  refine joinP_of fun J hJ => ?_
  rw [hn] at *
  have no : (k < 1 ∨ col < 0 ∨ col ≥ n) → K 0 w := fun h => by rwa [manyL, if_pos h] at hK
  refine cond_of (fun h => no (.inr (.inl (of_decide_eq_true h)))) (fun h1 => ?_)
  refine cond_of (fun h => no (.inr (.inr (of_decide_eq_true h)))) (fun h2 => ?_)
  refine cond_of (fun h => no (.inl (of_decide_eq_true h))) (fun h3 => ?_)
  have h1 := of_decide_eq_false h1
  have h2 := of_decide_eq_false h2
  have h3 := of_decide_eq_false h3
  refine hJ _ _ ?_
  rw [manyL, if_neg (by omega)] at hK
  rw [wrap64_id (by omega)]
  refine cond_of (fun h => ?_) (fun h => ?_)
  · have h := of_decide_eq_true h
    rwa [show min k ((n : Int) - col) = n - col by omega] at hK
  · have h := of_decide_eq_false h
    rwa [show min k ((n : Int) - col) = k by omega] at hK

/-- Blanks appended one by one. -/
theorem pads {a : Attr} {w w0 : World} {base c : Nat} {s0 : Slc} {ys : List Cell} {at_ : Nat} {Fin : Slc × Int × Unit → World → Prop} (h0 : Own cellE w base s0 ys) (hb0 : Blk w at_ 23 (T_api_Attr.rep.cells a)) (hB0 : Below base w0 w) (hat : ∀ g, s0.blk = some g → g ≠ at_) (hbase : base ≤ w0.heap.size) (hl : ys.length + c ≤ 100000)
    (hfin : ∀ s i w', Own cellE w' base s (ys ++ List.replicate c (blankC a)) → Below base w0 w' → Fin (s, i, ()) w') :
    loopP (σ := Slc × Int × Unit) (fun I1 s w6 =>
       cond (decide (s.2.1 < (c : Int)))
         (ldS T_api_Attr.rep ⟨at_, 0, none⟩ w6 fun t32 =>
          c_phosphorref13_blank t32 w6 fun t33 w7 =>
          nw 42 [(.int .i32 t33.R), (.int .i64 t33.Kind), (.int .i64 t33.A.Fg), (.int .i64 t33.A.Bg), (.int .i64 t33.A.Flags)] w7 fun t34 w8 =>
          apK Tryd.prog #[24, 24] 24 s.1 (⟨(some t34), 1, 1⟩ : Slc) w8 fun t35 w9 =>
          I1 (t35, (IntKind.i64.wrap (s.2.1 + (1 : Int))), ()) w9)
         (Fin s w6)) (s0, 0, ()) w := by
  refine loopP_rule (fun (s : Slc × Int × Unit) w2 => ∃ k : Nat, s.2.1 = k ∧ k ≤ c ∧ Own cellE w2 base s.1 (ys ++ List.replicate k (blankC a)) ∧ Blk w2 at_ 23 (T_api_Attr.rep.cells a) ∧ Below base w0 w2 ∧ (∀ g, s.1.blk = some g → g ≠ at_))
    (fun s => c - s.2.1.toNat) ⟨0, rfl, by omega, by simpa using h0, hb0, hB0, hat⟩ ?_
  rintro ⟨s, i, _⟩ w2 ⟨k, rfl, hk, ho, hb, hB, hne⟩ I hI
  dsimp only at *
  refine cond_of (fun h => ?_) (fun h => ?_)
  · have h := of_decide_eq_true h
    refine ldS_of (x := a) hb.cells ?_
    refine rblank_spec fun w3 hB3 hs3 => ?_
    refine nw_blk fun w4 hb4 hB4 hs4 => ?_
    have hd : Rd cellE w4 ⟨some ⟨w3.heap.size, 0, none⟩, 1, 1⟩ [blankC a] := rd_one (E := cellE) hb4 rfl
    have hB24 : Below w2.heap.size w2 w4 := hB3.trans (hB4.mono hs3)
    have hB04 : Below base w0 w4 := hB.trans (hB24.mono (by have := hB.size; omega))
    have hbl := hb.lt
    refine apK_own slT24 (ho.ext hB24) hd (by have := hB.size; have := hB24.size; omega) (by rw [by24]; simp; omega) (by simp [maxLen]; omega) fun r w5 ho5 hg5 hr5 => ?_
    rw [wrap64_id (by omega)]
    refine hI _ _ ⟨k + 1, by simp, by omega, ?_, ?_, ?_, ?_⟩ (by simp; omega)
    · rw [List.replicate_succ', ← List.append_assoc]; exact ho5
    · exact (hb.ext hB24).grown hg5 fun e => hne _ e.symm rfl
    · exact hB04.grown hg5 (by have := hB04.size; omega) fun g hg => (ho.lt g hg).1
    · intro g hg
      rcases hr5 with e | e
      · rw [e] at hg; exact hne g hg
      · rw [e] at hg; cases hg; have := hB24.size; omega
  · have h := of_decide_eq_false h
    have : k = c := by omega
    subst this
    exact hfin _ _ _ ho hB

theorem rInsert_spec {l : Slc} {xs : List Cell} {col k : Int} {a : Attr} {w : World} {K : Slc → World → Prop} (h : Rd cellE w l xs) (hl : xs.length ≤ 10000)
    (hK : ∀ s w', Own cellE w' w.heap.size s (insR xs col k a) → Below w.heap.size w w' → K s w') : c_phosphorref13_Insert l col k a w K := by
  refine call_phosphorref13_Insert _ _ _ _ ?_
  unfold sh_phosphorref13_Insert
  refine nw_blk fun w1 hb1 hB1 hs1 => ?_
  refine rMend_spec (h.ext hB1) (by omega) fun m w2 ho2 hB2 => ?_
  have hml := mendL_length xs
  have hln : l.n = xs.length := h.n
  have hB02 : Below w.heap.size w w2 := hB1.trans (hB2.mono (by omega))
  have hb2 := hb1.ext hB2
  have ho2 : Own cellE w2 w.heap.size m (mendL xs) := ho2.base (by omega)
  obtain ⟨hc0, hc1⟩ := manyL_bounds (n := xs.length) (col := col) (k := k)
  refine count_spec hln (by omega) ?_
  unfold insR at hK
  generalize manyL xs.length col k = c at *
  refine cond_of (fun e => ?_) (fun e => ?_)
  · have e := eq_of_beq e
    simp only [if_pos e] at hK
    exact hK _ _ ho2 hB02
  · have e := beq_eq_false_iff_ne.1 e
    simp only [if_neg e] at hK
    obtain ⟨hc1, hc2⟩ := hc1 e
    refine nw_blk fun w4 hb4 hB4 hs4 => ?_
    have hB04 : Below w.heap.size w w4 := hB02.trans (hB4.mono hB02.size)
    have ho4 := ho2.ext hB4
    have h24 : w.heap.size < w2.heap.size := hb2.lt
    refine ho4.rd.slK (l := 0) (m := col.toNat) rfl (.inl ⟨rfl, rfl⟩) (.inr (by simp; omega)) (by omega) (by omega) fun hp => ?_
    refine apK_own slT24 (own_empty (E := cellE) (base := w2.heap.size) hb4 (Nat.le_refl _)) hp (by omega) (by rw [by24]; simp; omega) (by simp [maxLen]; omega) fun r w5 ho5 hg5 hr5 => ?_
    have hr5' : ∀ g, r.blk = some g → w2.heap.size ≤ g := fun g hg => (ho5.lt g hg).1
    have hB25 : Below w2.heap.size w2 w5 := hB4.grown hg5 (by omega) fun g hg => by cases hg; exact Nat.le_refl _
    rw [List.nil_append, List.drop_zero] at ho5
    rw [show c = ((c.toNat : Nat) : Int) by omega]
    refine pads (w0 := w2) (c := c.toNat) ho5 (hb2.ext hB25) hB25 (fun g hg => by have := hr5' g hg; omega) (Nat.le_refl _) (by simp; omega) fun s i w6 ho6 hB6 => ?_
    have ho26 := ho2.ext hB6
    refine ho26.rd.slK (l := col.toNat) (m := (mendL xs).length) rfl (.inr (by simp; omega)) (.inl ⟨rfl, rfl⟩) (by omega) (by omega) fun hq => ?_
    rw [List.take_length] at hq
    have h26 := hB6.size
    refine apK_own slT24 ho6 hq h26 (by rw [by24]; simp; omega) (by simp [maxLen]; omega) fun q w7 ho7 hg7 hr7 => ?_
    have hB27 : Below w2.heap.size w2 w7 := hB6.grown hg7 h26 fun g hg => (ho6.lt g hg).1
    refine ho7.rd.slK (l := 0) (m := l.n) rfl (.inl ⟨rfl, rfl⟩) (.inr rfl) (by omega) (by simp; omega) fun hz => ?_
    rw [List.drop_zero, hln] at hz
    have hB07 : Below w.heap.size w w7 := hB02.trans (hB27.mono hB02.size)
    rw [hln]
    refine rMend_spec hz (by simp; omega) fun s w8 ho8 hB8 => hK s w8 (ho8.base hB07.size) (hB07.trans (hB8.mono hB07.size))

theorem rDelete_spec {l : Slc} {xs : List Cell} {col k : Int} {a : Attr} {w : World} {K : Slc → World → Prop} (h : Rd cellE w l xs) (hl : xs.length ≤ 10000)
    (hK : ∀ s w', Own cellE w' w.heap.size s (delL xs col k a) → Below w.heap.size w w' → K s w') : c_phosphorref13_Delete l col k a w K := by
  refine call_phosphorref13_Delete _ _ _ _ ?_
  unfold sh_phosphorref13_Delete
  refine nw_blk fun w1 hb1 hB1 hs1 => ?_
  refine rMend_spec (h.ext hB1) (by omega) fun m w2 ho2 hB2 => ?_
  have hml := mendL_length xs
  have hln : l.n = xs.length := h.n
  have hB02 : Below w.heap.size w w2 := hB1.trans (hB2.mono (by omega))
  have hb2 := hb1.ext hB2
  have ho2 : Own cellE w2 w.heap.size m (mendL xs) := ho2.base (by omega)
  obtain ⟨hc0, hc1⟩ := manyL_bounds (n := xs.length) (col := col) (k := k)
  refine count_spec hln (by omega) ?_
  unfold delL at hK
  generalize manyL xs.length col k = c at *
  refine cond_of (fun e => ?_) (fun e => ?_)
  · have e := eq_of_beq e
    simp only [if_pos e] at hK
    exact hK _ _ ho2 hB02
  · have e := beq_eq_false_iff_ne.1 e
    simp only [if_neg e] at hK
    obtain ⟨hc1, hc2⟩ := hc1 e
    refine nw_blk fun w4 hb4 hB4 hs4 => ?_
    have hB04 : Below w.heap.size w w4 := hB02.trans (hB4.mono hB02.size)
    have ho4 := ho2.ext hB4
    have h24 : w.heap.size < w2.heap.size := hb2.lt
    refine ho4.rd.slK (l := 0) (m := col.toNat) rfl (.inl ⟨rfl, rfl⟩) (.inr (by simp; omega)) (by omega) (by omega) fun hp => ?_
    refine apK_own slT24 (own_empty (E := cellE) (base := w2.heap.size) hb4 (Nat.le_refl _)) hp (by omega) (by rw [by24]; simp; omega) (by simp [maxLen]; omega) fun r w5 ho5 hg5 hr5 => ?_
    have hB25 : Below w2.heap.size w2 w5 := hB4.grown hg5 (by omega) fun g hg => by cases hg; exact Nat.le_refl _
    rw [List.nil_append, List.drop_zero] at ho5
    rw [wrap64_id (by omega)]
    refine (ho2.ext hB25).rd.slK (l := (col + c).toNat) (m := (mendL xs).length) rfl (.inr (by simp; omega)) (.inl ⟨rfl, rfl⟩) (by omega) (by omega) fun hq => ?_
    rw [List.take_length] at hq
    refine apK_own slT24 ho5 hq hB25.size (by rw [by24]; simp; omega) (by simp [maxLen]; omega) fun q w6 ho6 hg6 hr6 => ?_
    have hB26 : Below w2.heap.size w2 w6 := hB25.grown hg6 hB25.size fun g hg => (ho5.lt g hg).1
    rw [show c = ((c.toNat : Nat) : Int) by omega]
    refine pads (w0 := w2) (c := c.toNat) (ys := (mendL xs).take col.toNat ++ (mendL xs).drop (col + c).toNat) (by simpa using ho6) (hb2.ext hB26) hB26 (fun g hg => by have := (ho6.lt g hg).1; omega) (Nat.le_refl _) (by simp; omega) fun s i w7 ho7 hB7 => ?_
    have hB07 : Below w.heap.size w w7 := hB02.trans (hB7.mono hB02.size)
    refine rMend_spec ho7.rd (by simp; omega) fun s w8 ho8 hB8 => hK s w8 ?_ (hB07.trans (hB8.mono hB07.size))
    exact ho8.base hB07.size

theorem rErase_spec {l : Slc} {xs : List Cell} {from_ to : Int} {a : Attr} {w : World} {K : Slc → World → Prop} (h : Rd cellE w l xs) (hl : xs.length ≤ 10000)
    (hK : ∀ s w', Own cellE w' w.heap.size s (eraR xs from_ to a) → Below w.heap.size w w' → K s w') : c_phosphorref13_Erase l from_ to a w K := by
  refine call_phosphorref13_Erase _ _ _ _ ?_
  unfold sh_phosphorref13_Erase
  refine nw_blk fun w1 hb1 hB1 hs1 => ?_
  have hml := mendL_length xs
  have hln : l.n = xs.length := h.n
  refine joinP_of fun J1 hJ1 => ?_
  unfold eraR at hK
  have hlo : 0 ≤ max 0 from_ := by omega
  have main : J1 (max 0 from_, ()) w1 := hJ1 _ _ (by
    dsimp only
    refine joinP_of fun J2 hJ2 => ?_
    have main : J2 (min (xs.length : Int) to, ()) w1 := hJ2 _ _ (by
      dsimp only
      have hhi : min (xs.length : Int) to ≤ xs.length := by omega
      generalize max 0 from_ = lo at *
      generalize min (xs.length : Int) to = hi at *
      refine cond_of (fun e => ?_) (fun e => ?_)
      · have e := of_decide_eq_true e
        simp only [if_pos e] at hK
        exact rMend_spec (h.ext hB1) (by omega) fun m w2 ho2 hB2 => hK _ _ (ho2.base (by omega)) (hB1.trans (hB2.mono (by omega)))
      · have e := of_decide_eq_false e
        simp only [if_neg e] at hK
        refine over_spec (h.ext hB1) hl fun m w2 ho2 hB2 => ?_
        have hB02 : Below w.heap.size w w2 := hB1.trans (hB2.mono (by omega))
        have hb2 := hb1.ext hB2
        have hmb : ∀ g, m.blk = some g → w.heap.size < g := fun g hg => by have := (ho2.lt g hg).1; omega
        have ho2 : Own cellE w2 w.heap.size m (overL (mendL xs) lo hi) := ho2.base (by omega)
        have hol := overL_length (mendL xs) lo hi
        generalize overL (mendL xs) lo hi = ys at *
        refine loopP_rule (fun (s : Int × Unit) w3 => ∃ k : Nat, s.1 = k ∧ lo.toNat ≤ k ∧ k ≤ hi.toNat ∧ Own cellE w3 w.heap.size m (fillL ys lo.toNat k (blankC a)) ∧ Blk w3 w.heap.size 23 (T_api_Attr.rep.cells a) ∧ Below w.heap.size w w3)
          (fun s => hi.toNat - s.1.toNat) ⟨lo.toNat, by simp; omega, by omega, by omega, by rw [fillL_none]; exact ho2, hb2, hB02⟩ ?_
        rintro ⟨i, _⟩ w3 ⟨k, rfl, hk1, hk2, ho, hb, hB⟩ I hI
        dsimp only at *
        have hfl := fillL_length ys lo.toNat k (blankC a)
        refine cond_of (fun hlt => ?_) (fun hge => ?_)
        · have hlt := of_decide_eq_true hlt
          refine ldS_of (x := a) hb.cells ?_
          refine rblank_spec fun w4 hB4 hs4 => ?_
          have ho4 := ho.ext hB4
          have hB04 : Below w.heap.size w w4 := hB.trans (hB4.mono hB.size)
          refine ho4.rd.ix rfl (by omega) (by omega) fun _ => ?_
          refine ho4.st0 (x := (fillL ys lo.toNat k (blankC a))[((k : Int)).toNat]'(by omega)) (List.getElem?_eq_getElem _) (y := blankC a) rfl fun w5 ho5 hg5 hs5 => ?_
          rw [wrap64_id (by omega)]
          refine hI _ _ ⟨k + 1, by simp, by omega, by omega, ?_, (hb.ext hB4).grown hg5 (fun e => by have := hmb _ e.symm; omega), hB04.grown hg5 hB04.size fun g hg => (ho.lt g hg).1⟩ (by simp; omega)
          rw [show ((k : Int)).toNat = k from rfl, fillL_set hk1] at ho5
          exact ho5
        · have hge := of_decide_eq_false hge
          have : k = hi.toNat := by omega
          subst this
          exact hK m w3 ho hB)
    rw [hln]
    refine cond_of (fun e => ?_) (fun e => ?_)
    · have e := of_decide_eq_true e
      rwa [show min (xs.length : Int) to = xs.length by omega] at main
    · have e := of_decide_eq_false e
      rwa [show min (xs.length : Int) to = to by omega] at main)
  refine cond_of (fun e => ?_) (fun e => ?_)
  · have e := of_decide_eq_true e
    rwa [show max 0 from_ = 0 by omega] at main
  · have e := of_decide_eq_false e
    rwa [show max 0 from_ = from_ by omega] at main

theorem rResize_spec {l : Slc} {xs : List Cell} {cols : Int} {w : World} {K : Slc → World → Prop} (h : Rd cellE w l xs) (hl : xs.length ≤ 10000)
    (hK : ∀ s w', Own cellE w' w.heap.size s (resR xs cols) → Below w.heap.size w w' → K s w') : c_phosphorref13_Resize l cols w K := by
  refine call_phosphorref13_Resize _ _ ?_
  unfold sh_phosphorref13_Resize
  have hml := mendL_length xs
  refine joinP_of fun J1 hJ1 => ?_
  unfold resR at hK
  have main : J1 (max 0 cols, ()) w := hJ1 _ _ (by
    dsimp only
    refine joinP_of fun J2 hJ2 => ?_
    have main : J2 (min 1000 (max 0 cols), ()) w := hJ2 _ _ (by
      dsimp only
      refine rMend_spec h (by omega) fun m w2 ho2 hB2 => ?_
      have hmn : m.n = xs.length := by have := ho2.rd.n; rwa [hml] at this
      have hc : 0 ≤ min 1000 (max 0 cols) := by omega
      have hc' : min 1000 (max 0 cols) ≤ 1000 := by omega
      generalize min 1000 (max 0 cols) = c at *
      refine cond_of (fun e => ?_) (fun e => ?_)
      · have e := of_decide_eq_true e
        rw [hmn] at e
        simp only [if_pos e] at hK
        refine ho2.rd.slK (l := 0) (m := c.toNat) rfl (.inl ⟨rfl, rfl⟩) (.inr (by simp; omega)) (by omega) (by omega) fun hp => ?_
        refine rMend_spec hp (by simp; omega) fun s w3 ho3 hB3 => hK s w3 ?_ (hB2.trans (hB3.mono hB2.size))
        rw [List.drop_zero] at ho3
        exact ho3.base hB2.size
      · have e := of_decide_eq_false e
        rw [hmn] at e
        simp only [if_neg e] at hK
        refine loopP_rule (fun (s : Slc × Unit) w3 => ∃ k : Nat, xs.length + k ≤ c.toNat ∧ Own cellE w3 w.heap.size s.1 (mendL xs ++ List.replicate k (blankC ⟨0, 0, 0⟩)) ∧ Below w.heap.size w w3)
          (fun s => c.toNat - s.1.n) ⟨0, by omega, by simpa using ho2, hB2⟩ ?_
        rintro ⟨s, _⟩ w3 ⟨k, hk, ho, hB⟩ I hI
        dsimp only at *
        have hsn := ho.rd.n
        rw [List.length_append, hml, List.length_replicate] at hsn
        refine cond_of (fun hlt => ?_) (fun hge => ?_)
        · have hlt := of_decide_eq_true hlt
          refine rblank_spec fun w4 hB4 hs4 => ?_
          refine nw_blk fun w5 hb5 hB5 hs5 => ?_
          have hd : Rd cellE w5 ⟨some ⟨w4.heap.size, 0, none⟩, 1, 1⟩ [blankC ⟨0, 0, 0⟩] := rd_one (E := cellE) hb5 rfl
          have hB35 : Below w3.heap.size w3 w5 := hB4.trans (hB5.mono hs4)
          have hB05 : Below w.heap.size w w5 := hB.trans (hB35.mono hB.size)
          refine apK_own slT24 (ho.ext hB35) hd hB05.size (by rw [by24]; simp; omega) (by simp [maxLen]; omega) fun r w6 ho6 hg6 hr6 => ?_
          have hrn := ho6.rd.n
          simp only [List.length_append, hml, List.length_replicate, List.length_cons, List.length_nil] at hrn
          refine hI _ _ ⟨k + 1, by omega, ?_, hB05.grown hg6 hB05.size fun g hg => (ho.lt g hg).1⟩ (by simp only []; omega)
          rw [List.replicate_succ', ← List.append_assoc]
          exact ho6
        · have hge := of_decide_eq_false hge
          have hkc : (c - xs.length).toNat = k := by omega
          rw [hkc] at hK
          refine rMend_spec ho.rd (by simp; omega) fun s w4 ho4 hB4 => hK s w4 (ho4.base hB.size) (hB.trans (hB4.mono hB.size)))
    refine cond_of (fun e => ?_) (fun e => ?_)
    · have e := of_decide_eq_true e
      rwa [show min 1000 (max 0 cols) = 1000 by omega] at main
    · have e := of_decide_eq_false e
      rwa [show min 1000 (max 0 cols) = max 0 cols by omega] at main)
  refine cond_of (fun e => ?_) (fun e => ?_)
  · have e := of_decide_eq_true e
    rwa [show max 0 cols = 0 by omega] at main
  · have e := of_decide_eq_false e
    rwa [show max 0 cols = cols by omega] at main

end Go.Proofs.YtgejghejnibocaaDoor
