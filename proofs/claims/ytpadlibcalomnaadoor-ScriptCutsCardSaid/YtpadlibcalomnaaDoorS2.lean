/- strings.Builder; the program's Quote. -/
import Derived.Test.YtpadlibcalomnaaDoorS1
import Derived.Test.YtpadlibcalomnaaDoorLib2
import Derived.Test.YtpadlibcalomnaaDoorK13
set_option linter.unusedVariables false
namespace Go.Proofs.YtpadlibcalomnaaDoor
open Go.Vc Go.RowKit
set_option maxRecDepth 400000
/-- A builder that holds these bytes, and all it has lies from this block on. -/
def IsB (w : World) (B b : Nat) (l : List UInt8) : Prop := Lib.IsBuilder 82 5 B b (Lib.byteCells l) w
section
variable {w : World} {B b : Nat} {l : List UInt8}
theorem flat_bytes (l : List UInt8) : flat E_uint8 l = Lib.byteCells l := by
  induction l with
  | nil => rfl
  | cons c l ih =>
    show E_uint8.cells c ++ flat E_uint8 l = _
    rw [ih]
    rfl
theorem own_of_row {v : Value} (h : w.ownsRow B 5 1 v (Lib.byteCells l).length (Lib.byteCells l)) : ∃ s : Slc, v = .slice s.a s.n s.c ∧ Go.Vc.Own E_uint8 w B s l := by
  have hl := Lib.byteCells_length l
  have key : ∀ s : Slc, v = s.v → Go.Vc.Own E_uint8 w B s l := fun s hs => by
    subst hs
    show w.ownsRow B 5 1 s.v l.length (flat E_uint8 l)
    rw [flat_bytes]
    rwa [hl] at h
  rcases h.2 with ⟨hv, _⟩ | ⟨g, cap, cur, hv, _⟩
  · exact ⟨⟨none, 0, 0⟩, hv, key ⟨none, 0, 0⟩ hv⟩
  · exact ⟨⟨some ⟨g, 0, none⟩, _, cap⟩, hv, key ⟨some ⟨g, 0, none⟩, _, cap⟩ hv⟩
theorem copyCheck_spec (h : IsB w B b l) {K : World → Prop} (hK : ∀ w', Lib.BuilderAt 82 5 B b (.pointer (some ⟨b, 0, none⟩)) (Lib.byteCells l) w' → Below B w w' → Chg (fun k => k = b) w w' → K w') : c_strings_Builder_copyCheck (some ⟨b, 0, none⟩) w K := by
  rcases h with h | h
  · refine Calls.mono (Any.Builder_copyCheck_fresh (P := Tryd.prog) (ρ := Tryd.lays156_ren) { Tryd.lays156 with } { Tryd.Builder_Extra_156 with } b w h.cell0 h.shape h.frozen0) ?_
    rintro e w' ⟨rfl, rfl⟩
    exact ⟨rfl, hK _ (h.used _) ((Below.refl B w).setCell (p := ⟨b, 0, none⟩) h.1 _) ⟨rfl, rfl, rfl, by simp [World.setCell], fun i hi hn => Below.heap_setCell w ⟨b, 0, none⟩ _ i hn⟩⟩
  · refine Calls.mono (Any.Builder_copyCheck_used (P := Tryd.prog) (ρ := Tryd.lays156_ren) { Tryd.lays156 with } { Tryd.Builder_Extra_156 with } b w h.cell0) ?_
    rintro e w' ⟨rfl, rfl⟩
    exact ⟨rfl, hK _ h (Below.refl B _) (Chg.of_ext (Below.refl _ _))⟩
theorem new_builder {K : Addr → World → Prop} (hK : ∀ w', IsB w' w.heap.size w.heap.size [] → Below w.heap.size w w' → w'.heap.size = w.heap.size + 1 → K ⟨w.heap.size, 0, none⟩ w') : nw ty_strings_Builder [(.pointer none), (.slice none 0 0)] w K := by
  refine nw_blk fun w1 hb1 hB1 hs1 => hK w1 ?_ hB1 hs1
  exact .inl ⟨Nat.le_refl _, .slice none 0 0, hb1, World.ownsRow_nil _ _ _ _, by simp [Value.ownBlock]⟩
/-- Behind copyCheck: its row read, something appended, the new row laid. -/
theorem put_spec {w1 : World} (h : Lib.BuilderAt 82 5 B b (.pointer (some ⟨b, 0, none⟩)) (Lib.byteCells l) w1) (hBw : B ≤ w1.heap.size) {A : Slc → World → (Slc → World → Prop) → Prop} {l' : List UInt8}
    (hA : ∀ s w2 (J : Slc → World → Prop), w2 = w1 → Go.Vc.Own E_uint8 w1 B s l → (∀ r w3, Go.Vc.Own E_uint8 w3 B r l' → Chg (fun k => s.blk = some k) w1 w3 → J r w3) → A s w1 J) {K : World → Prop} (hK : ∀ w', IsB w' B b l' → Below B w1 w' → K w') :
    onPtr (some ⟨b, 0, none⟩) fun t9 => ldSl (t9.add 1) w1 fun t11 => A t11 w1 fun t14 w3 => onPtr (some ⟨b, 0, none⟩) fun t15 => stK (t15.add 1) [(.slice t14.a t14.n t14.c)] w3 K := by
  obtain ⟨hB, v, hb, hown, hne⟩ := h
  obtain ⟨s, rfl, hs⟩ := own_of_row hown
  have hblk : Blk w1 b 82 [.pointer (some ⟨b, 0, none⟩), .slice s.a s.n s.c] := hb
  have hsb : s.blk ≠ some b := by rw [← ownBlock_v]; exact hne
  refine onPtr_a (ldSl_of (x := s) (by rw [add_mk]; exact hblk.cell 1 rfl) (hA s w1 _ rfl hs fun r w3 hr hc => onPtr_a ?_))
  have hblk3 := hblk.chg hc hsb
  have hne3 := own_ne_blk hr hblk3 (by decide)
  rw [add_mk]
  refine stK_blk hblk3 (by simp) fun w4 hb4 hg4 hs4 => hK w4 ?_ ?_
  · have hr4 : Go.Vc.Own E_uint8 w4 B r l' := hr.kept hg4 (by
      cases hk : r.blk with
      | none => exact .inl rfl
      | some k => exact .inr fun e => hne3 k hk (Option.some.inj e))
    refine .inr ⟨hB, .slice r.a r.n r.c, hb4, ?_, ?_⟩
    · have : w4.ownsRow B 5 1 r.v l'.length (flat E_uint8 l') := hr4
      rw [flat_bytes] at this
      rwa [Lib.byteCells_length]
    · have : r.v.ownBlock = r.blk := ownBlock_v r
      show r.v.ownBlock ≠ some b
      rw [this]
      intro e
      exact hne3 b e rfl
  · have h13 : Below B w1 w3 := hc.below hBw fun i hi e => by have := hs.lt i e; omega
    exact h13.grown hg4 (Nat.le_trans hBw h13.size) fun k hk => by cases hk; exact hB
theorem WriteByte_spec (h : IsB w B b l) (hBw : B ≤ w.heap.size) (hl : l.length ≤ 1000000) (c : UInt8) {K : Value → World → Prop} (hK : ∀ v w', IsB w' B b (l ++ [c]) → Below B w w' → K v w') : c_strings_Builder_WriteByte (some ⟨b, 0, none⟩) (c.toNat : Int) w K := by
  refine call_strings_Builder_WriteByte _ _ ?_
  unfold sh_strings_Builder_WriteByte
  refine copyCheck_spec h fun w1 h1 hB1 hc1 => ?_
  have s1 := hB1.size
  refine put_spec (l' := l ++ [c]) (A := fun s w2 J => nw ty_uint8 [(.int .u8 (c.toNat : Int))] w2 fun t13 w3 => apK PG #[ty_sl_uint8, ty_sl_uint8] ty_sl_uint8 s (⟨(some t13), 1, 1⟩ : Slc) w3 J) h1 (by omega)
    (fun s w2 J e hs hJ => ?_) fun w' h2 h3 => hK _ w' h2 (hB1.trans h3)
  exact snoc_own (E := E_uint8) (y := c) sT_sl_uint8 hs rfl (by omega) (by rw [by_sl_uint8]; omega) (by unfold maxLen; omega) fun r w3 hr hc _ => hJ r w3 hr hc
theorem Write_spec (h : IsB w B b l) (hBw : B ≤ w.heap.size) {p : Slc} {ps : List UInt8} (hp : Rd E_uint8 w p ps) (hpb : ∀ a, p.a = some a → ¬ a.block = b) (hl : l.length + ps.length ≤ 1000000) {K : Int → Value → World → Prop} (hK : ∀ n v w', IsB w' B b (l ++ ps) → Below B w w' → K n v w') : c_strings_Builder_Write (some ⟨b, 0, none⟩) p w K := by
  refine call_strings_Builder_Write _ _ ?_
  unfold sh_strings_Builder_Write
  refine copyCheck_spec h fun w1 h1 hB1 hc1 => ?_
  have s1 := hB1.size
  refine put_spec (l' := l ++ ps) (A := fun s w2 J => apK PG #[ty_sl_uint8, ty_sl_uint8] ty_sl_uint8 s p w2 J) h1 (by omega)
    (fun s w2 J e hs hJ => ?_) fun w' h2 h3 => hK _ _ w' h2 (hB1.trans h3)
  refine apK_own sT_sl_uint8 hs (hp.chg hc1 hpb) (by omega) (by rw [by_sl_uint8]; omega) (by unfold maxLen; omega) fun r w3 hr hg _ => hJ r w3 hr (Chg.of_grown hg fun k hk => hk)
theorem String_spec (h : IsB w B b l) (hBw : B ≤ w.heap.size) {K : ByteArray → World → Prop} (hK : ∀ w', Below B w w' → K (strB l) w') : c_strings_Builder_String (some ⟨b, 0, none⟩) w K := by
  refine Calls.mono (Tryd.Builder_String_any B b l w h hBw) ?_
  rintro e w' ⟨rfl, hB⟩
  exact ⟨_, rfl, hK w' hB⟩
theorem hex_nib {c : UInt8} : ((c.toNat : Int).fdiv (2 ^ (min (4 : Int).toNat IntKind.u8.bits))) = ((c.toNat / 16 : Nat) : Int) ∧ bitsR .and .u8 (c.toNat : Int) 15 = ((c.toNat % 16 : Nat) : Int) := by
  have h : ∀ n : Nat, n < 256 → ((n : Int).fdiv (2 ^ (min (4 : Int).toNat IntKind.u8.bits))) = ((n / 16 : Nat) : Int) ∧ bitsR .and .u8 (n : Int) 15 = ((n % 16 : Nat) : Int) := by decide +kernel
  exact h c.toNat c.toNat_lt
theorem hex_at {n : Nat} (h : n < 16) : hexB[n]? = some (hexB.getD n 0) := by
  have : ∀ n, n < 16 → hexB[n]? = some (hexB.getD n 0) := by decide +kernel
  exact this n h
theorem IsB.ext {w' : World} (h : IsB w B b l) (hB : Below w.heap.size w w') : IsB w' B b l := by
  have hk : ∀ {p : Value}, Lib.BuilderAt 82 5 B b p (Lib.byteCells l) w → Lib.BuilderAt 82 5 B b p (Lib.byteCells l) w' := by
    rintro p h0
    have hlt := h0.lt
    obtain ⟨h1, v, h2, h3, h4⟩ := h0
    obtain ⟨s, rfl, hs⟩ := own_of_row h3
    refine ⟨h1, _, (hB.block _ hlt).trans h2, ?_, h4⟩
    have h5 : w'.ownsRow B 5 1 s.v l.length (flat E_uint8 l) := hs.ext hB
    rw [flat_bytes] at h5
    rwa [Lib.byteCells_length]
  rcases h with h | h
  · exact .inl (hk h)
  · exact .inr (hk h)
theorem IsB.drew (h : IsB w B b l) : IsB w.drew B b l := by
  rcases h with h | h
  · exact .inl h.drew
  · exact .inr h.drew
theorem IsB.lt (h : IsB w B b l) : b < w.heap.size := by
  rcases h with h | h
  · exact h.lt
  · exact h.lt
theorem Write3_spec (h : IsB w B b l) (hBw : B ≤ w.heap.size) (hl : l.length ≤ 900000) (x y z : UInt8) {K : Int → Value → World → Prop} (hK : ∀ n v w', IsB w' B b (l ++ [x, y, z]) → Below B w w' → K n v w') :
    nw ty_uint8 [(.int .u8 x.toNat), (.int .u8 y.toNat), (.int .u8 z.toNat)] w fun t33 w4 => c_strings_Builder_Write (some ⟨b, 0, none⟩) (⟨(some t33), 3, 3⟩ : Slc) w4 K := by
  have hlt := h.lt
  refine nw_blk fun w4 hb4 hB4 hs4 => ?_
  have hp : Rd E_uint8 w4 ⟨some ⟨w.heap.size, 0, none⟩, 3, 3⟩ [x, y, z] := (own_lits (E := E_uint8) (base := 0) (ys := [x, y, z]) (Nat.zero_le _) hb4 (by unfold maxLen; simp) rfl).rd
  refine Write_spec (h.ext hB4) (by omega) hp (fun a ha => by cases ha; show ¬ w.heap.size = b; omega) (by simp only [List.length_cons, List.length_nil]; omega) fun n v w5 hb5 hB5 => hK n v w5 hb5 ((hB4.mono hBw).trans hB5)
theorem Quote_spec {q : Slc} {bs : List UInt8} (hq : Rd E_uint8 w q bs) (hl : bs.length ≤ 100000) {K : ByteArray → World → Prop} (hK : ∀ w', Below w.heap.size w w' → K (strB (quoteL bs)) w') : c_script_Quote q w K := by
  refine call_script_Quote _ ?_
  unfold sh_script_Quote
  have hn := hq.n
  refine cond_of (fun h => ?_) fun h => ?_
  · have h : (q.n : Int) = 0 := by simpa using h
    have e : bs = [] := List.eq_nil_of_length_eq_zero (by omega)
    have := hK w (Below.refl _ _)
    rw [e] at this
    exact this
  have h : ¬ (q.n : Int) = 0 := by simpa using h
  have hne : bs ≠ [] := fun e => by subst e; simp at hn; omega
  refine new_builder fun w1 hb1 hB1 hs1 => ?_
  have hlen : ∀ l : List UInt8, (l.flatMap q1).length ≤ 3 * l.length := fun l => by
    induction l with
    | nil => simp
    | cons c l ih =>
      have := q1_len c
      rw [List.flatMap_cons, List.length_append, List.length_cons]
      omega
  refine loopP_rule (fun (s : Int × Unit) w2 => ∃ i : Nat, s.1 = i ∧ i ≤ bs.length ∧ IsB w2 w.heap.size w.heap.size ((bs.take i).flatMap q1) ∧ Below w.heap.size w w2 ∧ w.heap.size < w2.heap.size) (fun s => bs.length - s.1.toNat) ⟨0, rfl, by omega, hb1, hB1, by omega⟩ ?_
  rintro ⟨i, u⟩ w2 ⟨m, hi, hm, hb2, hB2, hs2⟩ I hI
  dsimp only at hi ⊢
  subst hi
  have hq2 := hq.ext hB2
  have hll := hlen (bs.take m)
  rw [List.length_take] at hll
  by_cases hlt : m < bs.length
  · refine cond_t (by simp; omega) ?_
    refine hq2.ix (k := 1) rfl (by omega) (by omega) fun hcell => ?_
    obtain ⟨c, hc, hc'⟩ := get_of (xs := bs) (k := m) hlt
    rw [hc' _] at hcell
    refine ldI_of (x := (c.toNat : Int)) (by simpa using hcell 0 _ rfl) ?_
    have hts : (bs.take (m + 1)).flatMap q1 = (bs.take m).flatMap q1 ++ q1 c := by
      rw [List.take_succ_eq_append_getElem hlt]
      rw [List.getElem?_eq_getElem hlt] at hc
      rw [Option.some.inj hc, List.flatMap_append, List.flatMap_singleton]
    have hw : IntKind.i64.wrap ((m : Int) + (1 : Int)) = ((m + 1 : Nat) : Int) := by rw [i64_in (by omega)]; simp
    rw [hw]
    have hfine : fineB c = (decide (33 ≤ c) && decide (c ≤ 126) && decide (c ≠ 37)) := rfl
    have e1 : decide ((c.toNat : Int) ≥ 33) = decide ((33 : UInt8) ≤ c) := u8_ge 33 (by omega)
    have e2 : decide ((c.toNat : Int) ≤ 126) = decide (c ≤ (126 : UInt8)) := u8_le 126 (by omega)
    have e3 : ((c.toNat : Int) != 37) = decide (c ≠ 37) := by
      have : ((c.toNat : Int) == 37) = decide (c = 37) := u8_ne 37 (by omega)
      rw [bne, this]
      simp
    refine joinP_of fun J2 hJ2 => ?_
    have hesc : fineB c = false → J2 () w2 := by
      intro hf
      refine hJ2 _ _ ⟨by decide, ?_⟩
      have hq1 : q1 c = [37, hexB.getD (c.toNat / 16) 0, hexB.getD (c.toNat % 16) 0] := by unfold q1; rw [if_neg (by rw [hf]; simp)]
      have hc256 := c.toNat_lt
      refine ixS_of (bs := hexB) hex_nib.1 (hex_at (by omega)) (ixS_of (bs := hexB) hex_nib.2 (hex_at (by omega)) ?_)
      refine Write3_spec hb2.drew (by show _ ≤ w2.heap.size; omega) (by omega) 37 _ _ fun n v w5 hb5 hB5 => ?_
      have hB5' : Below w.heap.size w w5 := hB2.drew.trans hB5
      have s5 : w2.heap.size ≤ w5.heap.size := hB5.size
      rw [← hq1, ← hts] at hb5
      exact hI _ _ ⟨m + 1, rfl, by omega, hb5, hB5', by omega⟩ (by simp; omega)
    refine cond_of (fun h1 => ?_) fun h1 => hesc ?_
    · refine cond_of (fun h2 => ?_) fun h2 => hesc ?_
      · refine cond_of (fun h3 => ?_) fun h3 => hesc ?_
        · rw [e1] at h1
          rw [e2] at h2
          rw [e3] at h3
          have hf : fineB c = true := by rw [hfine, h1, h2, h3]; rfl
          have hq1 : q1 c = [c] := by unfold q1; rw [if_pos hf]
          refine WriteByte_spec hb2 (by omega) (by omega) c fun v w6 hb6 hB6 => ?_
          rw [← hq1, ← hts] at hb6
          have s6 := hB6.size
          exact hI _ _ ⟨m + 1, rfl, by omega, hb6, hB2.trans hB6, by omega⟩ (by simp; omega)
        · rw [e3] at h3
          rw [hfine, h3, Bool.and_false]
      · rw [e2] at h2
        rw [hfine, h2, Bool.and_false, Bool.false_and]
    · rw [e1] at h1
      rw [hfine, h1, Bool.false_and, Bool.false_and]
  · refine cond_f (by simp; omega) ?_
    obtain rfl : m = bs.length := by omega
    rw [List.take_length] at hb2
    refine String_spec hb2 (by omega) fun w7 hB7 => ?_
    have := hK w7 (hB2.trans (hB7))
    unfold quoteL at this
    rwa [if_neg hne] at this
end
end Go.Proofs.YtpadlibcalomnaaDoor
