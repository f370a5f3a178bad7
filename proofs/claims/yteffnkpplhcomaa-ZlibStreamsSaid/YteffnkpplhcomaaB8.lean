/- The program's decoder of deflate streams: a sign, and what belongs to it. -/
import Derived.Test.YteffnkpplhcomaaB7
namespace Go.Proofs.Yteffnkpplhcomaa
open Go.Vc Go.RowKit
set_option maxRecDepth 400000

theorem length_spec {y : Nat} {w : World} {K : Int → Int → World → Prop} (h0 : 257 ≤ y) (h1 : y ≤ 285) (hK : K ((lenBase y).1 : Nat) ((lenBase y).2 : Nat) w) : c_inflate_length y w K := by
  refine call_inflate_length _ ?_
  unfold sh_inflate_length
  unfold lenBase at hK
  refine cond_of (fun e => ?_) (fun e => ?_)
  · have e : y = 285 := by have := eq_of_beq e; omega
    rw [if_pos e] at hK
    exact hK
  · have e : y ≠ 285 := by have := beq_eq_false_iff_ne.1 e; omega
    rw [if_neg e] at hK
    have e1 : IntKind.i64.wrap ((y : Int) - 257) = ((y - 257 : Nat) : Int) := by rw [wrap64_id (by omega)]; omega
    rw [e1]
    obtain ⟨k, hk⟩ : ∃ k, y - 257 = k := ⟨_, rfl⟩
    rw [hk] at hK ⊢
    refine cond_of (fun c => ?_) (fun c => ?_)
    · have c := of_decide_eq_true c
      rw [if_pos (by omega)] at hK
      rw [wrap64_id (by omega)]
      exact hK
    · have c := of_decide_eq_false c
      rw [if_neg (by omega)] at hK
      have d4 : ((k : Nat) : Int).tdiv 4 = ((k / 4 : Nat) : Int) := IntWalk.up_tdiv rfl rfl
      have m4 : ((k : Nat) : Int).tmod 4 = ((k % 4 : Nat) : Int) := IntWalk.up_tmod rfl rfl
      have en : IntKind.i64.wrap (IntKind.i64.wrap (((k : Nat) : Int).tdiv 4) - 1) = ((k / 4 - 1 : Nat) : Int) := by
        rw [d4, wrap64_id (x := ((k / 4 : Nat) : Int)) (by omega), wrap64_id (by omega)]; omega
      rw [en, m4, wrap64_id (x := 4 + ((k % 4 : Nat) : Int)) (by omega)]
      have hn : k / 4 - 1 ≤ 6 := by omega
      have hp : 2 ^ (k / 4 - 1) ≤ 2 ^ 6 := Nat.pow_le_pow_right (by decide) hn
      have e2 : min (((k / 4 - 1 : Nat) : Int)).toNat IntKind.i64.bits = k / 4 - 1 := by show min (k / 4 - 1) 64 = _; omega
      have e3 : (4 : Int) + ((k % 4 : Nat) : Int) = ((4 + k % 4 : Nat) : Int) := by omega
      have hq : (4 + k % 4) * 2 ^ (k / 4 - 1) ≤ 7 * 2 ^ 6 := Nat.mul_le_mul (by omega) hp
      have hpp : 2 ^ (k / 4 - 1) * 1 ≤ 2 ^ 6 := by omega
      rw [e2, e3, mul_pow_nat, wrap_nat .i64 (by show _ < 2 ^ 63; omega), wrap64_id (by omega)]
      refine ⟨by decide, by decide, by omega, ?_⟩
      have e5 : (3 : Int) + (((4 + k % 4) * 2 ^ (k / 4 - 1) : Nat) : Int) = ((3 + (4 + k % 4) * 2 ^ (k / 4 - 1) : Nat) : Int) := by omega
      rw [e5]
      exact hK
theorem distance_spec {z : Nat} {w : World} {K : Int → Int → World → Prop} (h1 : z ≤ 29) (hK : K ((distBase z).1 : Nat) ((distBase z).2 : Nat) w) : c_inflate_distance z w K := by
  refine call_inflate_distance _ ?_
  unfold sh_inflate_distance
  unfold distBase at hK
  refine cond_of (fun c => ?_) (fun c => ?_)
  · have c := of_decide_eq_true c
    rw [if_pos (by omega)] at hK
    rw [wrap64_id (by omega)]
    exact hK
  · have c := of_decide_eq_false c
    rw [if_neg (by omega)] at hK
    have d2 : ((z : Nat) : Int).tdiv 2 = ((z / 2 : Nat) : Int) := IntWalk.up_tdiv rfl rfl
    have m2 : ((z : Nat) : Int).tmod 2 = ((z % 2 : Nat) : Int) := IntWalk.up_tmod rfl rfl
    have en : IntKind.i64.wrap (IntKind.i64.wrap (((z : Nat) : Int).tdiv 2) - 1) = ((z / 2 - 1 : Nat) : Int) := by
      rw [d2, wrap64_id (x := ((z / 2 : Nat) : Int)) (by omega), wrap64_id (by omega)]; omega
    rw [en, m2, wrap64_id (x := 2 + ((z % 2 : Nat) : Int)) (by omega)]
    have hn : z / 2 - 1 ≤ 13 := by omega
    have hp : 2 ^ (z / 2 - 1) ≤ 2 ^ 13 := Nat.pow_le_pow_right (by decide) hn
    have e2 : min (((z / 2 - 1 : Nat) : Int)).toNat IntKind.i64.bits = z / 2 - 1 := by show min (z / 2 - 1) 64 = _; omega
    have e3 : (2 : Int) + ((z % 2 : Nat) : Int) = ((2 + z % 2 : Nat) : Int) := by omega
    have hq : (2 + z % 2) * 2 ^ (z / 2 - 1) ≤ 3 * 2 ^ 13 := Nat.mul_le_mul (by omega) hp
    rw [e2, e3, mul_pow_nat, wrap_nat .i64 (by show _ < 2 ^ 63; omega), wrap64_id (by omega)]
    refine ⟨by decide, by decide, by omega, ?_⟩
    have e5 : (1 : Int) + (((2 + z % 2) * 2 ^ (z / 2 - 1) : Nat) : Int) = ((1 + (2 + z % 2) * 2 ^ (z / 2 - 1) : Nat) : Int) := by omega
    rw [e5]
    exact hK
theorem lenBase_le (y : Nat) (h0 : 257 ≤ y) (h1 : y ≤ 285) : (lenBase y).1 ≤ 258 ∧ (lenBase y).2 ≤ 5 := by
  have : ∀ k : Fin 29, (lenBase (257 + k.val)).1 ≤ 258 ∧ (lenBase (257 + k.val)).2 ≤ 5 := by decide +kernel
  have := this ⟨y - 257, by omega⟩
  rwa [show 257 + (y - 257) = y by omega] at this
theorem distBase_le (z : Nat) (h1 : z ≤ 29) : (distBase z).1 ≤ 24577 ∧ 1 ≤ (distBase z).1 ∧ (distBase z).2 ≤ 13 := by
  have : ∀ k : Fin 30, (distBase k.val).1 ≤ 24577 ∧ 1 ≤ (distBase k.val).1 ∧ (distBase k.val).2 ≤ 13 := by decide +kernel
  exact this ⟨z, by omega⟩
theorem copyN_succ (most far : Nat) : ∀ (n : Nat) (h : List UInt8), copyN most far (n + 1) h = match copyN most far n h with | none => none | some h' => if most ≤ h'.length then none else some (h' ++ [h'.getD (h'.length - far) 0])
  | 0, h => by simp [copyN]
  | n + 1, h => by
    rw [copyN]
    split
    · next hf => rw [copyN, if_pos hf]
    · next hf => rw [copyN_succ most far n, copyN, if_neg hf]
theorem copyN_none (most far : Nat) {n m : Nat} (hnm : n ≤ m) {h : List UInt8} (hn : copyN most far n h = none) : copyN most far m h = none := by
  induction m with
  | zero => have : n = 0 := by omega
            subst this; exact hn
  | succ m ih =>
    rcases Nat.lt_or_ge n (m + 1) with hlt | hge
    · rw [copyN_succ, ih (by omega)]
    · have : n = m + 1 := by omega
      subst this; exact hn

section
variable {w w' : World} {base : Nat} {F : DF} {S : DS} {r : Nat} {rs : Slc} {at_ : Nat}
/-- A code that is read, beside the decoder. -/
theorem rRead {f : TF} {bt : Nat} {ls : List UInt8} {K : Int → Int → World → Prop} (h : DR w base F S r rs at_) (ht : TabR w bt f ls)
    (hK1 : ∀ y k w', readT ls S.wait at_ = .sym y k → at_ + k ≤ 8 * S.wait.length → y < ls.length → DR w' base F S r rs (at_ + k) → Chg (fun k => k = r) w w' → K y 0 w')
    (hK2 : ∀ w', readT ls S.wait at_ = .short → DR w' base F S r rs at_ → Chg (drS F r) w w' → K 0 2 w') (hK3 : ∀ w', readT ls S.wait at_ = .form → DR w' base F S r rs at_ → Chg (drS F r) w w' → K 0 3 w') : c_huff_Table_Read (some ⟨f.g, 0, none⟩) (some ⟨r, 0, none⟩) w K :=
  Read_spec (f := f) ht.blk ht.so.rd (fun k hk e => by
    subst e
    obtain ⟨cs, hcs⟩ := ht.so.blk_t hk
    exact hcs.ne_t h.rdr.blk (by decide) rfl) ht.sm ht.small ht.room h.rdr (fun y k w' e hl hy hr hc => hK1 y k w' e hl hy (h.moved hr hc) hc) (fun w' e hB => hK2 w' e (h.ext hB) (Chg.of_ext hB)) (fun w' e hB => hK3 w' e (h.ext hB) (Chg.of_ext hB))

theorem code_spec {K : Int → World → Prop} (h : DR w base F S r rs at_) (hm : S.c.mode = 4) (hbase : base ≤ w.heap.size)
    (hK : ∀ e F' S' at' w', StepRes S at_ e S' at' → DR w' base F' S' r rs at' → F.to F' w.heap.size → Chg (drS F r) w w' → K e w') : c_inflate_Decoder_code (some ⟨F.d, 0, none⟩) (some ⟨r, 0, none⟩) w K := by
  refine call_inflate_Decoder_code _ _ ?_
  unfold sh_inflate_Decoder_code
  simp only [onPtr_some]
  have hst : step1 S.most S.wait at_ S.c = stepCode S.most S.wait at_ S.c := by rw [step1, if_neg (by omega), stepN, if_neg (by omega), if_neg (by omega), if_neg (by omega), if_neg (by omega)]
  obtain ⟨f1, f2, e1, e2, t1, t2⟩ := h.d.tabs hm
  have hp6 : (decCells F S 0)[6]? = some (.pointer (some ⟨f1.g, 0, none⟩)) := by
    show some (Value.pointer (tp F.sg)) = _
    rw [e1]; rfl
  have hp7 : (decCells F S 0)[7]? = some (.pointer (some ⟨f2.g, 0, none⟩)) := by
    show some (Value.pointer (tp F.ds)) = _
    rw [e2]; rfl
  refine ldP_of (x := some ⟨f1.g, 0, none⟩) (h.d.blk.cells 6 _ hp6) ?_
  unfold stepCode at hst
  have hN : ∀ k, k = r → k < w.heap.size → NoTab w k := fun k e _ => by subst e; exact ⟨_, _, h.rdr.blk, by decide, by decide⟩
  -- short, and errors
  have short : ∀ at' w', step1 S.most S.wait at_ S.c = .short → at_ ≤ at' → DR w' base F S r rs at' → Chg (drS F r) w w' → K 2 w' := fun at' w' hs ha h' hc' =>
    hK 2 F S at' w' ⟨rfl, rfl, rfl, .inr (.inl ⟨rfl, 0, at_, .refl _ _, hs, ⟨[], by simp, by simp⟩, by simp, by omega, by simp, by omega, by omega⟩)⟩ h' (DF.to.refl _ _) hc'
  have bad : ∀ (n : Nat) F' S' at' w', step1 S.most S.wait at_ S.c = .err n → (n = 3 ∨ n = 5) → S'.most = S.most → S'.given = S.given → S'.told = S.told → S'.took = S.took → S'.wait = S.wait → DR w' base F' S' r rs at' → F.to F' w.heap.size → Chg (drS F r) w w' → K n w' := fun n F' S' at' w' hs hn h1 h2 h3 h4 h5 h' hto hc' =>
    hK n F' S' at' w' ⟨h1, h2, h3, .inr (.inr ⟨n, rfl, hn, ⟨S.c, at_, .refl _ _, hs⟩, h4, h5⟩)⟩ h' hto hc'
  refine rRead h t1 (fun y k w1 er hl1 hy h1 hc1 => ?_) (fun w1 er h1 hc1 => ?_) (fun w1 er h1 hc1 => ?_)
  rotate_left
  · rw [er] at hst
    exact cond_t rfl (short _ w1 hst (Nat.le_refl _) h1 hc1)
  · rw [er] at hst
    exact cond_t rfl (bad 3 F S _ w1 hst (.inl rfl) rfl rfl rfl rfl rfl h1 (DF.to.refl _ _) hc1)
  rw [er] at hst
  dsimp only at hst
  have c01 : Chg (drS F r) w w1 := drS_r hc1
  have s01 := hc1.size
  refine cond_f rfl ?_
  refine cond_of (fun c => ?_) (fun c => ?_)
  · have c : y = 256 := by have := eq_of_beq c; omega
    rw [if_pos c] at hst
    refine next1 h1 fun w2 h2 hc2 => ?_
    exact hK 0 F { S with c := S.c.behind } (at_ + k) w2 ⟨rfl, rfl, rfl, .inl ⟨rfl, ⟨_, _, hst, .refl _ _⟩, ⟨[], by simp [Cfg.behind], by simp⟩, rfl, rfl, rfl⟩⟩ h2 (DF.to.refl _ _) (c01.trans hc2 fun i _ hi => hi)
  have c : y ≠ 256 := by have := beq_eq_false_iff_ne.1 c; omega
  rw [if_neg c] at hst
  refine cond_of (fun c2 => ?_) (fun c2 => ?_)
  · have c2 := of_decide_eq_true c2
    rw [if_pos (by omega)] at hst
    exact bad 3 F S _ w1 hst (.inl rfl) rfl rfl rfl rfl rfl h1 (DF.to.refl _ _) c01
  have c2 := of_decide_eq_false c2
  rw [if_neg (by omega)] at hst
  refine cond_of (fun c3 => ?_) (fun c3 => ?_)
  · have c3 := of_decide_eq_true c3
    rw [if_pos (by omega)] at hst
    have hv : IntKind.u8.wrap ((y : Nat) : Int) = (((UInt8.ofNat y).toNat : Nat) : Int) := by
      rw [wrap_nat .u8 (by show _ < 2 ^ 8; omega), UInt8.toNat_ofNat']
      congr 1
      omega
    refine put1 hv h1 (by omega) (fun w2 hfull h2 hc2 => ?_) (fun F2 w2 hroom h2 hto2 hc2 => ?_)
    · rw [if_pos hfull] at hst
      exact bad 5 F S _ w2 hst (.inr rfl) rfl rfl rfl rfl rfl h2 (DF.to.refl _ _) (c01.trans hc2 fun i _ hi => hi)
    · rw [if_neg (by omega)] at hst
      exact hK 0 F2 { S with c := { S.c with hist := S.c.hist ++ [UInt8.ofNat y] }, out := S.out ++ [UInt8.ofNat y] } (at_ + k) w2 ⟨rfl, rfl, rfl, .inl ⟨rfl, ⟨_, _, hst, .refl _ _⟩, ⟨_, rfl, rfl⟩, rfl, rfl, rfl⟩⟩ h2 ((DF.to.refl F w.heap.size).trans hto2 (by omega)) (c01.trans hc2 fun i _ hi => hi)
  have c3 := of_decide_eq_false c3
  rw [if_neg (by omega)] at hst
  obtain ⟨lb1, lb2⟩ := lenBase_le y (by omega) (by omega)
  refine length_spec (by omega) (by omega) ?_
  obtain ⟨b, n, hbn⟩ : ∃ b n, lenBase y = (b, n) := ⟨_, _, rfl⟩
  rw [hbn] at hst lb1 lb2 ⊢
  dsimp only at hst lb1 lb2 ⊢
  refine rBits h1 (fun m w5 e hm32 hl5 h5 hc5 => ?_) (fun w5 hn h5 hc5 => ?_)
  rotate_left
  · rw [if_pos (by omega)] at hst
    exact cond_t rfl (short _ w5 hst (by omega) h5 (c01.trans hc5 fun i _ hi => hi))
  have : m = n := by omega
  subst this
  rw [if_neg (by omega)] at hst
  refine cond_f rfl ?_
  have c05 : Chg (drS F r) w w5 := c01.trans hc5 fun i _ hi => hi
  have s05 := c05.size
  refine ldP_of (x := some ⟨f2.g, 0, none⟩) (h5.d.blk.cells 7 _ hp7) ?_
  have hN1 : ∀ (k : Nat), drS F r k → k < w.heap.size → NoTab w k := fun k hk hlt => by
    rcases hk with hk | hk
    · exact h.d.noTab k hk
    · exact hN k hk hlt
  have t2' := t2.chg c05 hN1
  refine rRead h5 t2' (fun z j w6 er2 hl6 hz h6 hc6 => ?_) (fun w6 er2 h6 hc6 => ?_) (fun w6 er2 h6 hc6 => ?_)
  rotate_left
  · rw [er2] at hst
    exact cond_t rfl (short _ w6 hst (by omega) h6 (c05.trans hc6 fun i _ hi => hi))
  · rw [er2] at hst
    exact cond_t rfl (bad 3 F S _ w6 hst (.inl rfl) rfl rfl rfl rfl rfl h6 (DF.to.refl _ _) (c05.trans hc6 fun i _ hi => hi))
  rw [er2] at hst
  dsimp only at hst
  refine cond_f rfl ?_
  have c06 : Chg (drS F r) w w6 := c05.trans hc6 fun i _ hi => .inr hi
  have s06 := c06.size
  refine cond_of (fun c4 => ?_) (fun c4 => ?_)
  · have c4 := of_decide_eq_true c4
    rw [if_pos (by omega)] at hst
    exact bad 3 F S _ w6 hst (.inl rfl) rfl rfl rfl rfl rfl h6 (DF.to.refl _ _) c06
  have c4 := of_decide_eq_false c4
  rw [if_neg (by omega)] at hst
  obtain ⟨db1, db2, db3⟩ := distBase_le z (by omega)
  refine distance_spec (by omega) ?_
  obtain ⟨b2, n2, hbn2⟩ : ∃ b n, distBase z = (b, n) := ⟨_, _, rfl⟩
  rw [hbn2] at hst db1 db2 db3 ⊢
  dsimp only at hst db1 db2 db3 ⊢
  refine rBits h6 (fun m2 w8 e hm32' hl8 h8 hc8 => ?_) (fun w8 hn h8 hc8 => ?_)
  rotate_left
  · rw [if_pos (by omega)] at hst
    exact cond_t rfl (short _ w8 hst (by omega) h8 (c06.trans hc8 fun i _ hi => hi))
  have : m2 = n2 := by omega
  subst this
  rw [if_neg (by omega)] at hst
  refine cond_f rfl ?_
  have c08 : Chg (drS F r) w w8 := c06.trans hc8 fun i _ hi => hi
  have s08 := c08.size
  have hx1 := peekN_lt S.wait (at_ + k) m
  have hx2 := peekN_lt S.wait (at_ + k + m + j) m2
  have hpm : 2 ^ m ≤ 2 ^ 5 := Nat.pow_le_pow_right (by decide) lb2
  have hpm2 : 2 ^ m2 ≤ 2 ^ 13 := Nat.pow_le_pow_right (by decide) db3
  obtain ⟨len, hlen⟩ : ∃ x, b + peekN S.wait (at_ + k) m = x := ⟨_, rfl⟩
  obtain ⟨far, hfar⟩ : ∃ x, b2 + peekN S.wait (at_ + k + m + j) m2 = x := ⟨_, rfl⟩
  rw [hlen, hfar] at hst
  refine ldI_of (x := ((S.c.hist.length : Nat) : Int)) (h8.d.blk.cells 9 _ rfl) ?_
  have ef : IntKind.i64.wrap (((b2 : Nat) : Int) + IntKind.i64.wrap ((peekN S.wait (at_ + k + m + j) m2 : Nat) : Int)) = ((far : Nat) : Int) := by
    rw [wrap64_id (x := ((peekN S.wait (at_ + k + m + j) m2 : Nat) : Int)) (by omega), wrap64_id (by omega)]; omega
  have el : IntKind.i64.wrap (((b : Nat) : Int) + IntKind.i64.wrap ((peekN S.wait (at_ + k) m : Nat) : Int)) = ((len : Nat) : Int) := by
    rw [wrap64_id (x := ((peekN S.wait (at_ + k) m : Nat) : Int)) (by omega), wrap64_id (by omega)]; omega
  simp only [ef, el]
  have emin : (if (32768 : Int) < ((S.c.hist.length : Nat) : Int) then (32768 : Int) else ((S.c.hist.length : Nat) : Int)) = ((min S.c.hist.length 32768 : Nat) : Int) := by split <;> omega
  rw [emin]
  refine cond_of (fun c5 => ?_) (fun c5 => ?_)
  · have c5 := of_decide_eq_true c5
    rw [if_pos (by omega)] at hst
    exact bad 3 F S _ w8 hst (.inl rfl) rfl rfl rfl rfl rfl h8 (DF.to.refl _ _) c08
  have c5 := of_decide_eq_false c5
  rw [if_neg (by omega)] at hst
  have hfar1 : 1 ≤ far := by omega
  have hmo := h.d.mo
  refine loopP_rule (fun (s : Int × Unit) w9 => ∃ (i : Nat) (F9 : DF) (hh x : List UInt8), s.1 = i ∧ i ≤ len ∧ copyN S.most far i S.c.hist = some hh ∧ hh = S.c.hist ++ x ∧ DR w9 base F9 { S with c := { S.c with hist := hh }, out := S.out ++ x } r rs (at_ + k + m + j + m2) ∧ F9.d = F.d ∧ F.to F9 w.heap.size ∧ Chg (drS F r) w w9) (fun s => len - s.1.toNat)
    ⟨0, F, S.c.hist, [], rfl, by omega, rfl, by simp, by rw [List.append_nil]; exact h8, rfl, DF.to.refl _ _, c08⟩ ?_
  rintro ⟨i, _⟩ w9 ⟨i, F9, hh, x, rfl, hi, hcp, hhx, h9, ed9, hto9, hc9⟩ I hI
  dsimp only at *
  have s09 := hc9.size
  refine cond_of (fun c6 => ?_) (fun c6 => ?_)
  · have c6 := of_decide_eq_true c6
    have h9d := h9.drew
    rw [← ed9]
    have hlh : S.c.hist.length ≤ hh.length := by rw [hhx, List.length_append]; omega
    have hhm := h9.d.hm
    dsimp only at hhm
    refine ldSl_of (x := F9.ring) (h9d.d.blk.cells 8 _ rfl) ?_
    refine ldI_of (x := ((hh.length : Nat) : Int)) (h9d.d.blk.cells 9 _ rfl) ⟨by decide, ?_⟩
    have e9 : (IntKind.i64.wrap (((hh.length : Nat) : Int) - ((far : Nat) : Int))).tmod 32768 = (((hh.length - far) % 32768 : Nat) : Int) := by
      rw [wrap64_id (by omega), show ((hh.length : Nat) : Int) - ((far : Nat) : Int) = ((hh.length - far : Nat) : Int) by omega]
      exact IntWalk.up_tmod rfl rfl
    rw [e9]
    have hrl := ringOf_length hh
    have hget := ringOf_get hh (hh.length - far) (by omega) (by omega)
    have hidx : (hh.length - far) % 32768 < (ringOf hh).length := by
      rw [List.getElem?_eq_getElem (by omega : hh.length - far < hh.length)] at hget
      exact (List.getElem?_eq_some_iff.1 hget).1
    refine h9d.d.ring.rd.ix rfl (by omega) (by show _ < (((ringOf hh).length : Nat) : Int); omega) fun hc => ?_
    have hval : ∀ q, (ringOf hh)[(((hh.length - far) % 32768 : Nat) : Int).toNat]'q = hh.getD (hh.length - far) 0 := fun q => by
      have h2 := List.getElem?_eq_getElem (l := ringOf hh) (i := (hh.length - far) % 32768) hidx
      rw [hget] at h2
      rw [List.getD_eq_getElem?_getD, h2]
      rfl
    have hc : cellsAt w9.drew (F9.ring.at_ E_uint8.k (((hh.length - far) % 32768 : Nat) : Int).toNat) (E_uint8.cells ((ringOf hh)[(((hh.length - far) % 32768 : Nat) : Int).toNat]'(by exact hidx))) := hc
    rw [hval] at hc
    refine ldB8 (b := hh.getD (hh.length - far) 0) hc ?_
    have hsucc := copyN_succ S.most far i S.c.hist
    rw [hcp] at hsucc
    dsimp only at hsucc
    have sub : ∀ {w2 w3 : World}, Chg (drS F r) w w2 → Chg (drS F9 r) w2 w3 → Chg (drS F r) w w3 := fun h2 h3 => h2.trans h3 fun i hi hs => by
      rcases hs with hs | hs
      · rcases hto9.old i hs with e | e
        · exact .inl e
        · omega
      · exact .inr hs
    have hc9d : Chg (drS F r) w w9.drew := hc9.trans (Chg.of_ext (S := drS F r) ((Below.refl _ w9).drew)) fun i _ hi => hi
    refine put1 (c := hh.getD (hh.length - far) 0) rfl h9d (by show base ≤ w9.heap.size; omega) (fun w10 hfull h10 hc10 => ?_) (fun F10 w10 hroom h10 hto10 hc10 => ?_)
    · dsimp only at hfull
      rw [if_pos hfull] at hsucc
      rw [copyN_none S.most far (by omega : i + 1 ≤ len) hsucc] at hst
      exact cond_t rfl (bad 5 F9 { S with c := { S.c with hist := hh }, out := S.out ++ x } _ w10 hst (.inr rfl) rfl rfl rfl rfl rfl h10 hto9 (sub hc9d hc10))
    · dsimp only at hroom
      rw [if_neg (by omega)] at hsucc
      refine cond_f rfl ?_
      rw [wrap64_id (by omega)]
      have ed : F10.d = F9.d := hto10.d
      refine hI _ _ ⟨i + 1, F10, hh ++ [hh.getD (hh.length - far) 0], x ++ [hh.getD (hh.length - far) 0], by simp, by omega, hsucc, by rw [hhx, List.append_assoc], ?_, ed.trans ed9, hto9.trans hto10 (by show w.heap.size ≤ w9.heap.size; omega), sub hc9d hc10⟩ (by simp; omega)
      rw [← List.append_assoc]
      exact h10
  · have c6 := of_decide_eq_false c6
    have : i = len := by omega
    subst this
    rw [hcp] at hst
    exact hK 0 F9 { S with c := { S.c with hist := hh }, out := S.out ++ x } (at_ + k + m + j + m2) w9 ⟨rfl, rfl, rfl, .inl ⟨rfl, ⟨_, _, hst, .refl _ _⟩, ⟨x, hhx, rfl⟩, rfl, rfl, rfl⟩⟩ h9 hto9 hc9
end

end Go.Proofs.Yteffnkpplhcomaa
