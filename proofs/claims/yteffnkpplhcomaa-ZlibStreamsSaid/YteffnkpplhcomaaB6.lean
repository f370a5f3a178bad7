/- The program's decoder of deflate streams: head, stored, bytes, take, code. -/
import Derived.Test.YteffnkpplhcomaaB5
namespace Go.Proofs.Yteffnkpplhcomaa
open Go.Vc Go.RowKit
set_option maxRecDepth 400000

/-- The machine goes on, step by step. -/
inductive Ch (most : Nat) (bs : List UInt8) : Cfg → Nat → Cfg → Nat → Prop
  | refl (c : Cfg) (a : Nat) : Ch most bs c a c a
  | step {c : Cfg} {a : Nat} {c1 : Cfg} {a1 : Nat} {c2 : Cfg} {a2 : Nat} (h : step1 most bs a c = .next c1 a1) (r : Ch most bs c1 a1 c2 a2) : Ch most bs c a c2 a2
theorem Ch.one {most : Nat} {bs : List UInt8} {c c1 : Cfg} {a a1 : Nat} (h : step1 most bs a c = .next c1 a1) : Ch most bs c a c1 a1 := .step h (.refl _ _)
theorem Ch.trans {most : Nat} {bs : List UInt8} {c c1 c2 : Cfg} {a a1 a2 : Nat} (h : Ch most bs c a c1 a1) (h' : Ch most bs c1 a1 c2 a2) : Ch most bs c a c2 a2 := by
  induction h with
  | refl => exact h'
  | step h r ih => exact .step h (ih h')

structure DR (w : World) (base : Nat) (F : DF) (S : DS) (r : Nat) (rs : Slc) (at_ : Nat) : Prop where
  d : DecM w base F S
  rdr : RdrM w r rs S.wait at_
  sep : ∀ k, rs.blk = some k → ¬ dS F k
  rb : base ≤ r
  wr : ∀ k, F.wait.blk = some k → k ≠ r
  wl : ∀ k, F.wait.blk = some k → k < w.heap.size
  sl : ∀ k, rs.blk = some k → k < w.heap.size
def drS (F : DF) (r : Nat) (k : Nat) : Prop := dS F k ∨ k = r
section
variable {w w' : World} {base : Nat} {F : DF} {S : DS} {r : Nat} {rs : Slc} {at_ : Nat}
theorem DR.r_d (h : DR w base F S r rs at_) : ¬ dS F r := fun hs => by
  rcases hs with e | e | e
  · exact h.rdr.blk.ne_t h.d.blk (by decide) e
  · obtain ⟨cs, hcs⟩ := h.d.ring.blk_t e
    exact h.rdr.blk.ne_t hcs (by decide) rfl
  · obtain ⟨cs, hcs⟩ := h.d.out.blk_t e
    exact h.rdr.blk.ne_t hcs (by decide) rfl
/-- The reader has gone on. -/
theorem DR.moved {b : Nat} (h : DR w base F S r rs at_) (hr : RdrM w' r rs S.wait b) (hc : Chg (fun k => k = r) w w') : DR w' base F S r rs b := by
  have hs := hc.size
  refine ⟨h.d.chg hc (fun k hk e => ?_) fun k e _ => ?_, hr, h.sep, h.rb, h.wr, fun k hk => by have := h.wl k hk; omega, fun k hk => by have := h.sl k hk; omega⟩
  · subst e
    rcases hk with hk | hk
    · exact h.r_d hk
    · exact h.wr _ hk rfl
  · subst e
    exact ⟨_, _, h.rdr.blk, by decide, by decide⟩
theorem DR.ext (h : DR w base F S r rs at_) (hb : Below w.heap.size w w') : DR w' base F S r rs at_ :=
  ⟨h.d.ext hb, h.rdr.ext hb, h.sep, h.rb, h.wr, fun k hk => by have := h.wl k hk; have := hb.size; omega, fun k hk => by have := h.sl k hk; have := hb.size; omega⟩
theorem DR.drew (h : DR w base F S r rs at_) : DR w.drew base F S r rs at_ := h.ext ((Below.refl _ w).drew)
/-- The decoder has changed, its waiting bytes apart. -/
theorem DR.decd {F' : DF} {S' : DS} (h : DR w base F S r rs at_) (hd : DecM w' base F' S') (hto : F.to F' w.heap.size) (hw : S'.wait = S.wait) (hc : Chg (dS F) w w') : DR w' base F' S' r rs at_ := by
  have hs := hc.size
  refine ⟨hd, ?_, fun k hk hs' => ?_, h.rb, by rw [hto.wait]; exact h.wr, fun k hk => ?_, fun k hk => by have := h.sl k hk; omega⟩
  · rw [hw]
    exact h.rdr.chg hc h.r_d h.sep
  · rcases hto.old k hs' with e | e
    · exact h.sep k hk e
    · have := h.sl k hk; omega
  · rw [hto.wait] at hk
    have := h.wl k hk; omega
/-- The decoder's own block alone has changed. -/
theorem DR.own {F' : DF} {S' : DS} (h : DR w base F S r rs at_) (hd : DecM w' base F' S') (e1 : F'.d = F.d) (e2 : F'.ring = F.ring) (e3 : F'.out = F.out) (e4 : F'.wait = F.wait) (hw : S'.wait = S.wait) (hg : w.grownBy w' (some F.d)) : DR w' base F' S' r rs at_ :=
  h.decd hd ⟨e1, e4, .inl (by rw [e2]), .inl (by rw [e3])⟩ hw ((Chg.gg hg).mono fun i _ hi => .inl hi)
theorem drS_d {F : DF} {r : Nat} {w w' : World} (h : Chg (dS F) w w') : Chg (drS F r) w w' := h.mono fun _ _ hi => .inl hi
theorem drS_r {F : DF} {r : Nat} {w w' : World} (h : Chg (fun k => k = r) w w') : Chg (drS F r) w w' := h.mono fun _ _ hi => .inr hi
theorem drS_g {F : DF} {r : Nat} {w w' : World} (h : w.grownBy w' (some F.d)) : Chg (drS F r) w w' := (Chg.gg h).mono fun _ _ hi => .inl (.inl hi)

/-- Bits of the reader beside the decoder. -/
theorem rBits {n : Int} {K : Int → Bool → World → Prop} (h : DR w base F S r rs at_)
    (hK1 : ∀ (m : Nat) w', n = m → m ≤ 32 → at_ + m ≤ 8 * S.wait.length → DR w' base F S r rs (at_ + m) → Chg (drS F r) w w' → K ((peekN S.wait at_ m : Nat) : Int) true w')
    (hK2 : ∀ w', (n < 0 ∨ n > 32 ∨ (at_ : Int) + n > 8 * S.wait.length) → DR w' base F S r rs at_ → Chg (drS F r) w w' → K 0 false w') : c_bits_Reader_Bits (some ⟨r, 0, none⟩) n w K :=
  Bits_spec h.rdr (fun m w' e hm hl hr hc => hK1 m w' e hm hl (h.moved hr hc) (drS_r hc)) (fun w' hn hB => hK2 w' hn (h.ext hB) (Chg.of_ext hB))

/-- How a step may end. -/
def StepRes (S : DS) (at_ : Nat) (e : Int) (S' : DS) (at' : Nat) : Prop :=
  S'.most = S.most ∧ S'.given = S.given ∧ S'.told = S.told ∧
  ((e = 0 ∧ (∃ c1 a1, step1 S.most S.wait at_ S.c = .next c1 a1 ∧ Ch S.most S.wait c1 a1 S'.c at') ∧ (∃ x, S'.c.hist = S.c.hist ++ x ∧ S'.out = S.out ++ x) ∧ S'.wait = S.wait ∧ S'.took = S.took ∧ S'.skip = S.skip) ∨
   (e = 2 ∧ ∃ k a, Ch S.most S.wait S.c at_ S'.c a ∧ step1 S.most S.wait a S'.c = .short ∧ (∃ x, S'.c.hist = S.c.hist ++ x ∧ S'.out = S.out ++ x) ∧ S'.wait = S.wait.drop k ∧ k ≤ S.wait.length ∧ S'.took = S.took + k ∧ a = 8 * k + min at_ at' ∧ S'.c.mode ≤ 4) ∨
   (∃ n : Nat, e = (n : Int) ∧ (n = 3 ∨ n = 5) ∧ (∃ c a, Ch S.most S.wait S.c at_ c a ∧ step1 S.most S.wait a c = .err n) ∧ S'.took = S.took ∧ S'.wait = S.wait))

theorem and_one (a : Nat) (h : a < 2 ^ 32) : bitsR .and .u32 ((a : Nat) : Int) 1 = ((a % 2 : Nat) : Int) := by
  rw [show (1 : Int) = ((1 : Nat) : Int) from rfl, bits_and .u32 h (by decide), one_and]

theorem fixed_ok : ¬ badLens fixedL ∧ ¬ badRoom fixedL ∧ ¬ badLens fiveL ∧ ¬ badRoom fiveL := by
  have h1 : ∀ x ∈ fixedL, x.toNat ≤ 15 := by decide +kernel
  have h2 : ∀ x ∈ fiveL, x.toNat ≤ 15 := by decide +kernel
  have h3 : roomN fixedL = 32768 := by decide +kernel
  have h4 : roomN fiveL = 32768 := by decide +kernel
  refine ⟨?_, ?_, ?_, ?_⟩
  · rintro (h | ⟨x, hx, h⟩)
    · rw [fixedL_length] at h; omega
    · have := h1 x hx; omega
  · unfold badRoom; omega
  · rintro (h | ⟨x, hx, h⟩)
    · have : fiveL.length = 32 := by unfold fiveL; rw [List.length_replicate]
      omega
    · have := h2 x hx; omega
  · unfold badRoom; omega

theorem head_spec {K : Int → World → Prop} (h : DR w base F S r rs at_) (hm : S.c.mode = 0) (hbase : base ≤ w.heap.size)
    (hK : ∀ e F' S' at' w', StepRes S at_ e S' at' → DR w' base F' S' r rs at' → F.to F' w.heap.size → Chg (drS F r) w w' → K e w') : c_inflate_Decoder_head (some ⟨F.d, 0, none⟩) (some ⟨r, 0, none⟩) w K := by
  refine call_inflate_Decoder_head _ _ ?_
  unfold sh_inflate_Decoder_head
  have hst : step1 S.most S.wait at_ S.c = stepHead S.wait at_ S.c := by rw [step1, if_neg (by omega), stepN, if_pos hm]
  refine rBits h (fun m w1 e _ hl h1 hc1 => ?_) (fun w1 hn h1 hc1 => ?_)
  · have : m = 3 := by omega
    subst this
    refine cond_f rfl ?_
    have hv := peekN_lt S.wait at_ 3
    unfold stepHead at hst
    rw [if_neg (by omega)] at hst
    obtain ⟨v, hv'⟩ : ∃ v, peekN S.wait at_ 3 = v := ⟨_, rfl⟩
    rw [hv'] at hst hv ⊢
    dsimp only at hst
    simp only [onPtr_some]
    rw [and_one v (by omega), add_mk]
    have hvb : (((v % 2 : Nat) : Int) == 1) = (v % 2 == 1) := by
      rcases Nat.mod_two_eq_zero_or_one v with e | e <;> rw [e] <;> rfl
    rw [hvb]
    refine stK_blk h1.d.blk (by simp [decCells]) fun w2 hb2 hg2 hs2 => ?_
    have hd2 : DecM w2 base F { S with c := { S.c with last := v % 2 == 1 } } := h1.d.put hb2 hg2 rfl rfl rfl rfl rfl rfl rfl rfl (fun e => by have e : S.c.mode = 4 := e; omega) h1.d.m5 h1.d.hl h1.d.hs h1.d.ht
    have h2 := h1.own hd2 rfl rfl rfl rfl rfl hg2
    have hc2 : Chg (drS F r) w w2 := hc1.trans (drS_g hg2) fun i _ hi => hi
    rw [show min ((1 : Int)).toNat IntKind.u32.bits = 1 by decide, fdiv_nat, Nat.pow_one]
    have hs2' := hc2.size
    refine ⟨by decide, ?_⟩
    -- the end of each way
    have fin : ∀ (c : Cfg) F' w3, step1 S.most S.wait at_ S.c = .next c (at_ + 3) → c.hist = S.c.hist → DR w3 base F' { S with c := c } r rs (at_ + 3) → F.to F' w.heap.size → Chg (drS F r) w w3 → K 0 w3 := fun c F' w3 hs hh h3 hto hc3 =>
      hK 0 F' { S with c := c } (at_ + 3) w3 ⟨rfl, rfl, rfl, .inl ⟨rfl, ⟨_, _, hs, .refl _ _⟩, ⟨[], by simp [hh], by simp⟩, rfl, rfl, rfl⟩⟩ h3 hto hc3
    refine cond_of (fun e0 => ?_) (fun e0 => cond_of (fun e1 => ?_) (fun e1 => cond_of (fun e2 => ?_) (fun e2 => ?_)))
    · have e0 : v / 2 = 0 := by have := eq_of_beq e0; omega
      rw [if_pos e0] at hst
      rw [add_mk]
      refine stK_blk h2.d.blk (by simp [decCells]) fun w3 hb3 hg3 hs3 => ?_
      have hd3 : DecM w3 base F { S with c := { S.c with last := v % 2 == 1, mode := 1 } } := h2.d.put hb3 hg3 rfl rfl rfl rfl rfl rfl rfl rfl (fun e => by cases e) (by show 1 ≤ 5; decide) h2.d.hl h2.d.hs h2.d.ht
      exact fin _ F w3 hst rfl (h2.own hd3 rfl rfl rfl rfl rfl hg3) (DF.to.refl _ _) (hc2.trans (drS_g hg3) fun i _ hi => hi)
    · have e0 : v / 2 ≠ 0 := by have := beq_eq_false_iff_ne.1 e0; omega
      have e1 : v / 2 = 1 := by have := eq_of_beq e1; omega
      rw [if_neg e0, if_pos e1] at hst
      obtain ⟨k1, k2, k3, k4⟩ := fixed_ok
      refine HFixed_spec fun t6 t7 w4 ho4 hB4 => ?_
      have h4 := h2.ext hB4
      refine mkSl_of sT_sl_uint8 (x0 := (0 : UInt8)) rfl (n := 32) rfl rfl (by rw [by_sl_uint8]; omega) (by simp only [maxLen]; omega) fun w5 ho5 hB5 => ?_
      have h5 := h4.ext hB5
      have ho45 := ho4.ext hB5
      refine fill5 (n := 32) (by decide) ho5 fun w6 ho6 hc6 => ?_
      have hfr : ∀ k, (⟨some ⟨w4.heap.size, 0, none⟩, 32, 32⟩ : Slc).blk = some k → k = w4.heap.size := fun k hk => by cases hk; rfl
      have hB46 : Below w4.heap.size w4 w6 := hB5.trans (hc6.below hB5.size fun i hi hs => by have := hfr i hs; omega)
      have h6 := h4.ext hB46
      have ho46 := ho4.ext hB46
      refine New_spec ho46.rd (fun hb => absurd hb k1) (fun _ hb => absurd hb k2) (fun _ _ f1 w8 ht8 hB8 => ?_)
      have h8 := h6.ext hB8
      rw [add_mk]
      refine stK_blk h8.d.blk (by simp [decCells]) fun w9 hb9 hg9 hs9 => ?_
      have hd9 : DecM w9 base { F with sg := some f1 } { S with c := { S.c with last := v % 2 == 1 } } := h8.d.put hb9 hg9 rfl rfl rfl rfl rfl rfl rfl rfl (fun e => by have e : S.c.mode = 4 := e; omega) h8.d.m5 h8.d.hl h8.d.hs h8.d.ht
      have h9 := h8.own hd9 rfl rfl rfl rfl rfl hg9
      have hN : ∀ (k : Nat) (w' : World) (cs : List Value), Blk w' F.d ty_inflate_Decoder cs → k = F.d → k < w'.heap.size → NoTab w' k := fun k w' cs hb e _ => by subst e; exact ⟨_, _, hb, by decide, by decide⟩
      have t1 := ht8.r.chg (Chg.gg hg9) fun k e hk => hN k w8 _ h8.d.blk e hk
      have ho69 : Own E_uint8 w9 w4.heap.size ⟨some ⟨w4.heap.size, 0, none⟩, 32, 32⟩ (List.replicate 32 5) := (ho6.ext hB8).chg (Chg.gg hg9) fun k hk e => by
        obtain ⟨cs, hcs⟩ := (ho6.ext hB8).blk_t hk
        exact hcs.ne_t h8.d.blk (by decide) e
      refine New_spec (ls := fiveL) ho69.rd (fun hb => absurd hb k3) (fun _ hb => absurd hb k4) (fun _ _ f2 w10 ht10 hB10 => ?_)
      have h10 := h9.ext hB10
      have t1' := t1.ext hB10
      rw [add_mk]
      refine stK_blk h10.d.blk (by simp [decCells]) fun w11 hb11 hg11 hs11 => ?_
      have hd11 : DecM w11 base { F with sg := some f1, ds := some f2 } { S with c := { S.c with last := v % 2 == 1 } } := h10.d.put hb11 hg11 rfl rfl rfl rfl rfl rfl rfl rfl (fun e => by have e : S.c.mode = 4 := e; omega) h10.d.m5 h10.d.hl h10.d.hs h10.d.ht
      have h11 := h10.own hd11 rfl rfl rfl rfl rfl hg11
      have t1'' := t1'.chg (Chg.gg hg11) fun k e hk => hN k w10 _ h10.d.blk e hk
      have t2 := ht10.r.chg (Chg.gg hg11) fun k e hk => hN k w10 _ h10.d.blk e hk
      rw [add_mk]
      refine stK_blk h11.d.blk (by simp [decCells]) fun w12 hb12 hg12 hs12 => ?_
      have s2 := hB4.size
      have s4 := hB46.size
      have s8 := hB8.size
      have s9 := hg9.size
      have hd12 : DecM w12 base { F with sg := some f1, ds := some f2 } { S with c := { S.c with last := v % 2 == 1, mode := 4, sg := fixedL, ds := fiveL } } := h11.d.put hb12 hg12 rfl rfl rfl rfl rfl rfl rfl rfl (fun _ => ⟨f1, f2, rfl, rfl, (t1''.chg (Chg.gg hg12) fun k e hk => hN k w11 _ h11.d.blk e hk).base_le (by omega), (t2.chg (Chg.gg hg12) fun k e hk => hN k w11 _ h11.d.blk e hk).base_le (by omega)⟩) (by show 4 ≤ 5; decide) h11.d.hl h11.d.hs h11.d.ht
      refine fin _ _ w12 hst rfl (h11.own hd12 rfl rfl rfl rfl rfl hg12) ⟨rfl, rfl, .inl rfl, .inl rfl⟩ ?_
      have c4 : Chg (drS F r) w w8 := ((hc2.trans (Chg.of_ext (S := drS F r) hB4) fun i _ hi => hi).trans (Chg.of_ext (S := drS F r) hB46) fun i _ hi => hi).trans (Chg.of_ext (S := drS F r) hB8) fun i _ hi => hi
      have c10 : Chg (drS F r) w w10 := (c4.trans (drS_g (r := r) hg9) fun i _ hi => hi).trans (Chg.of_ext (S := drS F r) hB10) fun i _ hi => hi
      exact (c10.trans (drS_g (r := r) (F := F) hg11) fun i _ hi => hi).trans (drS_g (r := r) (F := F) hg12) fun i _ hi => hi
    · have e0 : v / 2 ≠ 0 := by have := beq_eq_false_iff_ne.1 e0; omega
      have e1 : v / 2 ≠ 1 := by have := beq_eq_false_iff_ne.1 e1; omega
      have e2 : v / 2 = 2 := by have := eq_of_beq e2; omega
      rw [if_neg e0, if_neg e1, if_pos e2] at hst
      rw [add_mk]
      refine stK_blk h2.d.blk (by simp [decCells]) fun w3 hb3 hg3 hs3 => ?_
      have hd3 : DecM w3 base F { S with c := { S.c with last := v % 2 == 1, mode := 3 } } := h2.d.put hb3 hg3 rfl rfl rfl rfl rfl rfl rfl rfl (fun e => by cases e) (by show 3 ≤ 5; decide) h2.d.hl h2.d.hs h2.d.ht
      exact fin _ F w3 hst rfl (h2.own hd3 rfl rfl rfl rfl rfl hg3) (DF.to.refl _ _) (hc2.trans (drS_g hg3) fun i _ hi => hi)
    · have e0 : v / 2 ≠ 0 := by have := beq_eq_false_iff_ne.1 e0; omega
      have e1 : v / 2 ≠ 1 := by have := beq_eq_false_iff_ne.1 e1; omega
      have e2 : v / 2 ≠ 2 := by have := beq_eq_false_iff_ne.1 e2; omega
      rw [if_neg e0, if_neg e1, if_neg e2] at hst
      have key : K 3 w2 := hK 3 F { S with c := { S.c with last := v % 2 == 1 } } (at_ + 3) w2 ⟨rfl, rfl, rfl, .inr (.inr ⟨3, rfl, .inl rfl, ⟨S.c, at_, .refl _ _, hst⟩, rfl, rfl⟩)⟩ h2 (DF.to.refl _ _) hc2
      exact cond_of (fun _ => key) (fun _ => key)
  · refine cond_t rfl (hK 2 F S at_ w1 ⟨rfl, rfl, rfl, .inr (.inl ⟨rfl, 0, at_, .refl _ _, ?_, ⟨[], by simp, by simp⟩, by simp, by omega, by simp, by omega, by omega⟩)⟩ h1 (DF.to.refl _ _) hc1)
    rw [hst]
    unfold stepHead
    rw [if_pos (by omega)]

theorem stored_spec {K : Int → World → Prop} (h : DR w base F S r rs at_) (hm : S.c.mode = 1)
    (hK : ∀ e F' S' at' w', StepRes S at_ e S' at' → DR w' base F' S' r rs at' → F.to F' w.heap.size → Chg (drS F r) w w' → K e w') : c_inflate_Decoder_stored (some ⟨F.d, 0, none⟩) (some ⟨r, 0, none⟩) w K := by
  refine call_inflate_Decoder_stored _ _ ?_
  unfold sh_inflate_Decoder_stored
  have hst : step1 S.most S.wait at_ S.c = stepStored S.wait at_ S.c := by rw [step1, if_neg (by omega), stepN, if_neg (by omega), if_pos hm]
  have hup : at_ ≤ up8 at_ := by unfold up8; omega
  have short : ∀ at' w', 8 * S.wait.length < up8 at_ + 32 → at_ ≤ at' → DR w' base F S r rs at' → Chg (drS F r) w w' → K 2 w' := fun at' w' hs ha h' hc' => by
    refine hK 2 F S at' w' ⟨rfl, rfl, rfl, .inr (.inl ⟨rfl, 0, at_, .refl _ _, ?_, ⟨[], by simp, by simp⟩, by simp, by omega, by simp, by omega, by omega⟩)⟩ h' (DF.to.refl _ _) hc'
    rw [hst]
    unfold stepStored
    rw [if_pos hs]
  refine Align_spec h.rdr fun v w1 hr1 hc1 => ?_
  have h1 := h.moved hr1 hc1
  refine rBits h1 (fun m w2 e _ hl2 h2 hc2 => ?_) (fun w2 hn h2 hc2 => ?_)
  · have : m = 16 := by omega
    subst this
    refine cond_f rfl ?_
    have hc02 : Chg (drS F r) w w2 := (drS_r hc1).trans hc2 fun i _ hi => hi
    refine rBits h2 (fun m w3 e _ hl3 h3 hc3 => ?_) (fun w3 hn h3 hc3 => ?_)
    · have : m = 16 := by omega
      subst this
      refine cond_f rfl ?_
      have hc03 : Chg (drS F r) w w3 := hc02.trans hc3 fun i _ hi => hi
      unfold stepStored at hst
      rw [if_neg (by omega)] at hst
      have hp1 := peekN_lt S.wait (up8 at_) 16
      have hp2 := peekN_lt S.wait (up8 at_ + 16) 16
      rw [bits_xor .u32 (by show _ < 2 ^ 32; omega) (by show _ < 2 ^ 32; omega)]
      refine cond_of (fun hx => ?_) (fun hx => ?_)
      · have hx : peekN S.wait (up8 at_) 16 ^^^ peekN S.wait (up8 at_ + 16) 16 ≠ 65535 := by have := bne_iff_ne.1 hx; omega
        rw [if_pos hx] at hst
        exact hK 3 F S _ w3 ⟨rfl, rfl, rfl, .inr (.inr ⟨3, rfl, .inl rfl, ⟨S.c, at_, .refl _ _, hst⟩, rfl, rfl⟩)⟩ h3 (DF.to.refl _ _) hc03
      · have hx : ¬ peekN S.wait (up8 at_) 16 ^^^ peekN S.wait (up8 at_ + 16) 16 ≠ 65535 := by have := bne_eq_false_iff_eq.1 hx; omega
        rw [if_neg hx] at hst
        simp only [onPtr_some]
        rw [add_mk, wrap_nat .i64 (by show _ < 2 ^ 63; omega)]
        refine stK_blk h3.d.blk (by simp [decCells]) fun w4 hb4 hg4 hs4 => ?_
        have hd4 : DecM w4 base F { S with c := { S.c with left := peekN S.wait (up8 at_) 16 } } := h3.d.put hb4 hg4 rfl rfl rfl rfl rfl rfl rfl rfl (fun e => by have e : S.c.mode = 4 := e; omega) h3.d.m5 (by show peekN S.wait (up8 at_) 16 ≤ 65535; omega) h3.d.hs h3.d.ht
        have h4 := h3.own hd4 rfl rfl rfl rfl rfl hg4
        rw [add_mk]
        refine stK_blk h4.d.blk (by simp [decCells]) fun w5 hb5 hg5 hs5 => ?_
        have hd5 : DecM w5 base F { S with c := { S.c with mode := 2, left := peekN S.wait (up8 at_) 16 } } := h4.d.put hb5 hg5 rfl rfl rfl rfl rfl rfl rfl rfl (fun e => by cases e) (by show 2 ≤ 5; decide) h4.d.hl h4.d.hs h4.d.ht
        have h5 := h4.own hd5 rfl rfl rfl rfl rfl hg5
        rw [show up8 at_ + 16 + 16 = up8 at_ + 32 by omega] at h5
        refine hK 0 F { S with c := { S.c with mode := 2, left := peekN S.wait (up8 at_) 16 } } (up8 at_ + 32) w5 ⟨rfl, rfl, rfl, .inl ⟨rfl, ⟨_, _, hst, .refl _ _⟩, ⟨[], by simp, by simp⟩, rfl, rfl, rfl⟩⟩ h5 (DF.to.refl _ _) ((hc03.trans (drS_g hg4) fun i _ hi => hi).trans (drS_g hg5) fun i _ hi => hi)
    · refine cond_t rfl (short _ w3 (by omega) (by omega) h3 (hc02.trans hc3 fun i _ hi => hi))
  · refine cond_t rfl (short _ w2 (by omega) hup h2 ((drS_r hc1).trans hc2 fun i _ hi => hi))

end

end Go.Proofs.Yteffnkpplhcomaa
