/- The document's reader of bits, and how it reads a code. The document's inflate: its state; stored blocks; copies; codes. The document's inflate: copies, blocks of codes. The document's inflate: lengths, dynamic blocks. The document's inflate: dynamic blocks, blocks, Front. The document's inflate: a block, Front. The document's zlib; the law of streams. The law of zlib's streams. -/
import Derived.Test.YteffnkpplhcomaaC1
import Derived.Test.YteffnkpplhcomaaZ1
import Derived.Test.YteffnkpplhcomaaInfC
import Derived.Test.YteffnkpplhcomaaB10
import Derived.Test.YteffnkpplhcomaaC2
import Derived.Test.YteffnkpplhcomaaZ4
namespace Go.Proofs.Yteffnkpplhcomaa
open Go.Vc Go.RowKit
set_option maxRecDepth 400000

structure RRd (w : World) (g : Nat) (s : Slc) (bs : List UInt8) (at_ : Nat) : Prop where
  blk : Blk w g ty_phosphorref1_Reader [.slice s.a s.n s.c, .int .i64 (at_ : Int)]
  rd : Rd E_uint8 w s bs
  ne : ∀ k, s.blk = some k → k ≠ g
  le : at_ ≤ 8 * bs.length
  sm : bs.length ≤ 1000000000
section
variable {w w' : World} {g : Nat} {s : Slc} {bs : List UInt8} {at_ : Nat}
theorem RRd.ext (h : RRd w g s bs at_) (hb : Below w.heap.size w w') : RRd w' g s bs at_ := ⟨h.blk.ext hb, h.rd.ext hb, h.ne, h.le, h.sm⟩
theorem RRd.drew (h : RRd w g s bs at_) : RRd w.drew g s bs at_ := h.ext ((Below.refl _ w).drew)
theorem RRd.chg {S : Nat → Prop} (h : RRd w g s bs at_) (hc : Chg S w w') (h1 : ¬ S g) (h2 : ∀ k, s.blk = some k → ¬ S k) : RRd w' g s bs at_ :=
  ⟨h.blk.chg hc h1, h.rd.chg hc fun a ha => h2 _ (slk.2 ⟨a, ha, rfl⟩), h.ne, h.le, h.sm⟩
/-- The place is set. -/
theorem RRd.set_ {n : Nat} {K : World → Prop} (h : RRd w g s bs at_) (hn : n ≤ 8 * bs.length) (hK : ∀ w', RRd w' g s bs n → Chg (fun k => k = g) w w' → K w') : stK ((⟨g, 0, none⟩ : Addr).add 1) [.int .i64 (n : Int)] w K := by
  rw [add_mk]
  refine stK_blk h.blk (by simp) fun w1 hb1 hg1 hs1 => hK w1 ⟨hb1, ?_, h.ne, hn, h.sm⟩ (Chg.gg hg1)
  exact h.rd.chg (Chg.gg hg1) fun a ha e => h.ne _ (slk.2 ⟨a, ha, rfl⟩) e

theorem rLeft_spec {K : Int → World → Prop} (h : RRd w g s bs at_) (hK : K ((8 * bs.length - at_ : Nat) : Int) w.drew) : c_phosphorref1_Reader_Left (some ⟨g, 0, none⟩) w K := by
  refine call_phosphorref1_Reader_Left _ ?_
  unfold sh_phosphorref1_Reader_Left
  simp only [onPtr_some]
  have hd := h.drew
  have hle := h.le
  have hsm := h.sm
  refine ldSl_of (x := s) (hd.blk.cells 0 _ rfl) ?_
  refine ldI_of (x := (at_ : Int)) (hd.blk.cells 1 _ rfl) ?_
  rw [h.rd.n, wrap64_id (x := 8 * ((bs.length : Nat) : Int)) (by omega), wrap64_id (by omega)]
  rw [show (8 : Int) * ((bs.length : Nat) : Int) - (at_ : Int) = ((8 * bs.length - at_ : Nat) : Int) by omega]
  exact hK
theorem rbit_spec {a : Nat} {K : Int → World → Prop} (h : RRd w g s bs at_) (ha : a < 8 * bs.length) (hK : K ((peekN bs a 1 : Nat) : Int) w) : c_phosphorref1_Reader_bit (some ⟨g, 0, none⟩) (a : Int) w K := by
  refine call_phosphorref1_Reader_bit _ _ ?_
  unfold sh_phosphorref1_Reader_bit
  simp only [onPtr_some]
  have hsm := h.sm
  have hi : a / 8 < bs.length := by omega
  refine ldSl_of (x := s) (h.blk.cells 0 _ rfl) ⟨by decide, ?_⟩
  have e1 : IntKind.i64.wrap ((a : Int).tdiv (8 : Int)) = ((a / 8 : Nat) : Int) := by
    rw [show (8 : Int) = ((8 : Nat) : Int) from rfl, ← Int.ofNat_tdiv, wrap64_id (by omega)]
  have e2 : (a : Int).tmod (8 : Int) = ((a % 8 : Nat) : Int) := by rw [show (8 : Int) = ((8 : Nat) : Int) from rfl, ← Int.ofNat_tmod]
  rw [e1, e2]
  obtain ⟨x, hx, hxs⟩ := get_of (xs := bs) (k := a / 8) hi
  refine h.rd.ix (i := ((a / 8 : Nat) : Int)) rfl (by omega) (by omega) fun hc => ?_
  rw [hxs] at hc
  refine ldB8 (b := x) hc ⟨by decide, ?_⟩
  rw [wrap_nat .u64 (x := a % 8) (by show _ < 2 ^ 64; omega)]
  refine ⟨by omega, ?_⟩
  have hx8 := x.toNat_lt
  have em : min (((a % 8 : Nat) : Int)).toNat IntKind.u8.bits = a % 8 := by show min (a % 8) 8 = a % 8; omega
  have hd : x.toNat / 2 ^ (a % 8) < 2 ^ 32 := Nat.lt_of_le_of_lt (Nat.div_le_self _ _) (by omega)
  rw [em, fdiv_nat, wrap_nat .u32 (x := x.toNat / 2 ^ (a % 8)) hd, show (1 : Int) = ((1 : Nat) : Int) from rfl, bits_and .u32 hd (by decide), one_and]
  have e : peekN bs a 1 = x.toNat / 2 ^ (a % 8) % 2 := by
    rw [peekN_bytes bs a 1 1 (by omega) (by omega)]
    have et : (bs.drop (a / 8)).take 1 = [x] := by
      rw [List.drop_eq_getElem_cons hi]
      have : bs[a / 8] = x := (List.getElem_eq_iff hi).2 hx
      rw [this]; rfl
    rw [et]
    show (x.toNat + 256 * 0) / _ % 2 ^ 1 = _
    rw [Nat.mul_zero, Nat.add_zero, Nat.pow_one]
  rw [← e]
  exact hK
theorem rPeek_spec {n : Nat} {K : Int → Bool → World → Prop} (h : RRd w g s bs at_) (hn : n ≤ 32) (hK1 : at_ + n ≤ 8 * bs.length → K ((peekN bs at_ n : Nat) : Int) true w.drew) (hK2 : 8 * bs.length < at_ + n → K 0 false w.drew) : c_phosphorref1_Reader_Peek (some ⟨g, 0, none⟩) (n : Int) w K := by
  refine call_phosphorref1_Reader_Peek _ _ ?_
  unfold sh_phosphorref1_Reader_Peek
  refine joinP_of fun J hJ => ?_
  refine cond_f (decide_eq_false (by omega)) (cond_f (decide_eq_false (by omega)) ?_)
  have hle := h.le
  have hsm := h.sm
  refine rLeft_spec h ?_
  refine cond_of (fun hlt => ?_) (fun hge => hJ _ _ ?_)
  · have hlt := of_decide_eq_true hlt
    exact hK2 (by omega)
  have hge := of_decide_eq_false hge
  have hfit : at_ + n ≤ 8 * bs.length := by omega
  have hd := h.drew
  clear hJ
  refine loopP_rule (fun (t : Int × Int × Unit) w2 => ∃ i : Nat, t.2.1 = i ∧ i ≤ n ∧ t.1 = ((peekN bs at_ i : Nat) : Int) ∧ w2 = w.drew) (fun t => n - t.2.1.toNat) ⟨0, rfl, by omega, by simp [peekN, Nat.mod_one], rfl⟩ ?_
  rintro ⟨v, i, _⟩ w2 ⟨i, rfl, hi, rfl, rfl⟩ I hI
  dsimp only at *
  refine cond_of (fun hlt => ?_) (fun hge => ?_)
  · have hlt := of_decide_eq_true hlt
    simp only [onPtr_some]
    refine ldI_of (x := (at_ : Int)) (hd.blk.cells 1 _ rfl) ?_
    rw [wrap64_id (x := (at_ : Int) + (i : Int)) (by omega), show (at_ : Int) + (i : Int) = ((at_ + i : Nat) : Int) from rfl]
    refine rbit_spec hd (by omega) ?_
    rw [wrap_nat .u64 (x := i) (by show _ < 2 ^ 64; omega)]
    refine ⟨by omega, ?_⟩
    have em : min ((i : Int)).toNat IntKind.u32.bits = i := by show min i 32 = i; omega
    have hb := peekN_lt bs (at_ + i) 1
    have hp := peekN_lt bs at_ i
    have hpi : 2 ^ i * 2 ≤ 2 ^ 32 := by rw [← Nat.pow_succ]; exact Nat.pow_le_pow_right (by decide) (by omega)
    have hmul : peekN bs (at_ + i) 1 * 2 ^ i ≤ 2 ^ i := by
      have h1 : peekN bs (at_ + i) 1 ≤ 1 := by omega
      have := Nat.mul_le_mul_right (2 ^ i) h1
      rwa [Nat.one_mul] at this
    rw [em, mul_pow_nat, wrap_nat .u32 (x := peekN bs (at_ + i) 1 * 2 ^ i) (by show _ < 2 ^ 32; omega), bits_or .u32 (by show _ < 2 ^ 32; omega) (by show _ < 2 ^ 32; omega), Nat.mul_comm, add_or hp, ← peekN_add]
    refine hI _ _ ⟨i + 1, by dsimp only; rw [wrap64_id (by omega)]; rfl, by omega, rfl, rfl⟩ (by dsimp only; rw [wrap64_id (by omega)]; omega)
  · have hge := of_decide_eq_false hge
    have : i = n := by omega
    subst this
    exact hK1 hfit
theorem rBits_spec {n : Nat} {K : Int → Bool → World → Prop} (h : RRd w g s bs at_) (hn : n ≤ 32) (hK1 : at_ + n ≤ 8 * bs.length → ∀ w', RRd w' g s bs (at_ + n) → Chg (fun k => k = g) w w' → K ((peekN bs at_ n : Nat) : Int) true w') (hK2 : 8 * bs.length < at_ + n → K 0 false w.drew) : c_phosphorref1_Reader_Bits (some ⟨g, 0, none⟩) (n : Int) w K := by
  refine call_phosphorref1_Reader_Bits _ _ ?_
  unfold sh_phosphorref1_Reader_Bits
  have hle := h.le
  have hsm := h.sm
  refine rPeek_spec h hn (fun hfit => ?_) (fun hs => ?_)
  · refine joinP_of fun J hJ => cond_t rfl ?_
    simp only [onPtr_some]
    refine ldI_of (x := (at_ : Int)) (h.drew.blk.cells 1 _ rfl) ?_
    rw [wrap64_id (x := (at_ : Int) + (n : Int)) (by omega), show (at_ : Int) + (n : Int) = ((at_ + n : Nat) : Int) from rfl]
    refine h.drew.set_ hfit fun w1 h1 hc => hJ _ _ (hK1 hfit w1 h1 ?_)
    exact (Chg.of_ext (S := fun k => k = g) ((Below.refl _ w).drew)).trans hc fun i _ hi => hi
  · refine joinP_of fun J hJ => cond_f rfl (hJ _ _ (hK2 hs))
theorem rAlign_spec {K : Int → World → Prop} (h : RRd w g s bs at_) (hK : ∀ v w', RRd w' g s bs (up8 at_) → Chg (fun k => k = g) w w' → K v w') : c_phosphorref1_Reader_Align (some ⟨g, 0, none⟩) w K := by
  refine call_phosphorref1_Reader_Align _ ?_
  unfold sh_phosphorref1_Reader_Align
  simp only [onPtr_some]
  have hle := h.le
  have hsm := h.sm
  refine loopP_rule_w (fun m (t : Int × Unit) w1 => ∃ i : Nat, m = up8 at_ - i ∧ at_ ≤ i ∧ i ≤ up8 at_ ∧ RRd w1 g s bs i ∧ Chg (fun k => k = g) w w1) (up8 at_ - at_) ⟨at_, rfl, Nat.le_refl _, by unfold up8; omega, h, Chg.refl _ _⟩ ?_
  rintro m ⟨v, _⟩ w1 ⟨i, rfl, hi1, hi2, h1, hc1⟩ I hI
  dsimp only
  refine ldI_of (x := (i : Int)) (h1.blk.cells 1 _ rfl) ⟨by decide, ?_⟩
  have e2 : (i : Int).tmod (8 : Int) = ((i % 8 : Nat) : Int) := by rw [show (8 : Int) = ((8 : Nat) : Int) from rfl, ← Int.ofNat_tmod]
  rw [e2]
  have hle1 := h1.le
  by_cases h8 : i % 8 = 0
  · refine cond_f (by rw [h8]; rfl) ?_
    have : i = up8 at_ := by unfold up8 at *; omega
    subst this
    exact hK v w1 h1 hc1
  · refine cond_t (by have : ((i % 8 : Nat) : Int) ≠ 0 := by omega
                      simpa using this) ?_
    refine ldI_of (x := (i : Int)) (h1.blk.cells 1 _ rfl) ?_
    rw [wrap64_id (x := (i : Int) + 1) (by omega), show (i : Int) + 1 = ((i + 1 : Nat) : Int) from rfl]
    refine h1.set_ (n := i + 1) (by omega) fun w2 h2 hc2 => ?_
    exact hI (up8 at_ - (i + 1)) _ w2 ⟨i + 1, rfl, by omega, by unfold up8 at *; omega, h2, hc1.trans hc2 fun i _ hi => hi⟩ (by unfold up8 at *; omega)
end

section
variable {w : World} {base tg : Nat} {lo co : Slc} {ls : List UInt8}
theorem rcode_bound (h : RTab w base tg lo co ls) {i : Nat} {x : UInt8} (hx : ls[i]? = some x) : codeK ls x.toNat i < 2 ^ 17 := by
  have h15 := h.good.1 x (List.mem_of_getElem? hx)
  have h1 := kraft h.good.room h15
  have h2 : cntK (ls.take i) x.toNat ≤ cntK ls x.toNat := by
    conv => rhs; rw [← List.take_append_drop i ls]
    rw [cntK_append]; omega
  have h3 : 2 ^ x.toNat ≤ 2 ^ 15 := Nat.pow_le_pow_right (by decide) h15
  unfold codeK
  omega
theorem begins_spec {c n : Nat} {K : Bool → World → Prop} (h : RTab w base tg lo co ls) (hn : n ≤ 15) (hK1 : begins ls c n → K true w) (hK2 : ¬ begins ls c n → K false w) : c_phosphorref4_Table_begins (some ⟨tg, 0, none⟩) (c : Int) (n : Int) w K := by
  refine call_phosphorref4_Table_begins _ _ _ ?_
  unfold sh_phosphorref4_Table_begins
  simp only [onPtr_some]
  have hsm := h.sm
  refine loopP_rule (fun (t : Int × Unit) w2 => ∃ i : Nat, t.1 = i ∧ i ≤ ls.length ∧ (∀ j, j < i → ∀ x, ls[j]? = some x → ¬ (n ≤ x.toNat ∧ 0 < x.toNat ∧ codeK ls x.toNat j / 2 ^ (x.toNat - n) = c)) ∧ w2 = w) (fun t => ls.length - t.1.toNat) ⟨0, rfl, by omega, fun j hj => absurd hj (Nat.not_lt_zero _), rfl⟩ ?_
  rintro ⟨i, _⟩ w2 ⟨i, rfl, hi, hno, rfl⟩ I hI
  dsimp only at *
  refine ldSl_of (x := lo) (h.blk.cells 0 _ rfl) ?_
  rw [h.lo.rd.n]
  refine cond_of (fun hlt => ?_) (fun hge => ?_)
  · have hlt := of_decide_eq_true hlt
    have hil : i < ls.length := by omega
    obtain ⟨x, hx, hxs⟩ := get_of (xs := ls) (k := i) hil
    have h15 := h.good.1 x (List.mem_of_getElem? hx)
    refine ldSl_of (x := lo) (h.blk.cells 0 _ rfl) ?_
    refine h.lo.rd.ix (i := (i : Int)) rfl (by omega) (by omega) fun hc => ?_
    rw [hxs] at hc
    refine ldB8 (b := x) hc ?_
    rw [wrap_nat .i64 (x := x.toNat) (by show _ < 2 ^ 63; omega), wrap64_id (x := (i : Int) + 1) (by omega)]
    have next : ¬ (n ≤ x.toNat ∧ 0 < x.toNat ∧ codeK ls x.toNat i / 2 ^ (x.toNat - n) = c) → I ((i : Int) + 1, ()) w2 := fun hx' => by
      refine hI _ _ ⟨i + 1, rfl, by omega, fun j hj y hy => ?_, rfl⟩ (by simp; omega)
      by_cases e : j = i
      · subst e
        rw [hx] at hy
        obtain rfl := Option.some.inj hy
        exact hx'
      · exact hno j (by omega) y hy
    refine cond_of (fun h1 => ?_) (fun h1 => next fun hh => by have := of_decide_eq_false h1; omega)
    have h1 := of_decide_eq_true h1
    refine cond_of (fun h2 => ?_) (fun h2 => next fun hh => by have := of_decide_eq_false h2; omega)
    have h2 := of_decide_eq_true h2
    have hcv : ∀ h, (rcodesL ls 16 0)[((i : Int)).toNat]'h = ((codeK ls x.toNat i : Nat) : Int) := fun hh => by
      rw [List.getElem_eq_iff]
      rw [show ((i : Int)).toNat = i from rfl, rcodesL_get hx, if_pos (by omega)]
    refine ldSl_of (x := co) (h.blk.cells 1 _ rfl) ?_
    refine h.co.rd.ix (i := (i : Int)) rfl (by omega) (by rw [rcodesL_length]; omega) fun hc2 => ?_
    rw [hcv] at hc2
    refine ldI_of (x := ((codeK ls x.toNat i : Nat) : Int)) (by simpa using hc2 0 _ rfl) ?_
    rw [wrap64_id (x := (x.toNat : Int) - (n : Int)) (by omega), show (x.toNat : Int) - (n : Int) = ((x.toNat - n : Nat) : Int) by omega, wrap_nat .u64 (x := x.toNat - n) (by show _ < 2 ^ 64; omega)]
    refine ⟨by omega, ?_⟩
    have em : min (((x.toNat - n : Nat) : Int)).toNat IntKind.u32.bits = x.toNat - n := by show min (x.toNat - n) 32 = _; omega
    rw [em, fdiv_nat]
    refine cond_of (fun he => hK1 ⟨i, x, hx, by omega, by omega, ?_⟩) (fun he => next fun hh => ?_)
    · have := eq_of_beq he; omega
    · have := beq_eq_false_iff_ne.1 he
      exact this (by rw [hh.2.2])
  · have hge := of_decide_eq_false hge
    refine hK2 fun ⟨j, x, hx, h1, h2, h3⟩ => hno j ?_ x hx ⟨h1, h2, h3⟩
    have := (List.getElem?_eq_some_iff.1 hx).1
    omega

theorem rRead_spec {g : Nat} {s : Slc} {bs : List UInt8} {at_ : Nat} {K : Int → Int → World → Prop} (h : RTab w base tg lo co ls) (hr : RRd w g s bs at_) (hgt : g ≠ tg) (hgl : ∀ k, lo.blk = some k ∨ co.blk = some k → k ≠ g)
    (hK : ∀ w' a' y e, RRd w' g s bs a' → Chg (fun k => k = g) w w' → (match readT ls bs at_ with | .sym z k => e = 0 ∧ y = ((z : Nat) : Int) ∧ a' = at_ + k ∧ z < ls.length | .short => e = 2 ∧ a' = at_ | .form => e = 3 ∧ a' = at_) → K y e w') : c_phosphorref4_Table_Read (some ⟨tg, 0, none⟩) (some ⟨g, 0, none⟩) w K := by
  refine call_phosphorref4_Table_Read _ _ ?_
  unfold sh_phosphorref4_Table_Read
  simp only [onPtr_some]
  have hle := hr.le
  have hsm := hr.sm
  have htsm := h.sm
  refine ldI_of (x := (at_ : Int)) (hr.blk.cells 1 _ rfl) ?_
  have keepT : ∀ {w'}, Chg (fun k => k = g) w w' → RTab w' base tg lo co ls := fun hc => ⟨h.blk.chg hc (fun e => hgt e.symm), h.hg, h.lo.chg hc fun k hk e => hgl k (.inl hk) e, h.co.chg hc fun k hk e => hgl k (.inr hk) e, h.sm, h.good⟩
  refine loopP_rule_w (fun m (t : Int × Int × Unit) w1 => ∃ n : Nat, m = 16 - n ∧ t.2.1 = (n : Int) ∧ t.1 = ((msb bs at_ n : Nat) : Int) ∧ ReadInv ls bs at_ n ∧ RRd w1 g s bs (at_ + n) ∧ Chg (fun k => k = g) w w1) 16 ⟨0, rfl, rfl, rfl, ReadInv.start hle, hr, Chg.refl _ _⟩ ?_
  rintro m ⟨c, n, _⟩ w1 ⟨n, rfl, rfl, rfl, inv, h1, hc1⟩ I hI
  dsimp only at *
  have hn15 := inv.n15
  refine cond_t (decide_eq_true (by omega)) ?_
  have ht1 := keepT hc1
  refine loopP_rule (fun (t : Int × Unit) w2 => ∃ i : Nat, t.1 = i ∧ i ≤ ls.length ∧ (∀ j, j < i → ¬ isCode ls n (msb bs at_ n) j) ∧ w2 = w1) (fun t => ls.length - t.1.toNat) ⟨0, rfl, by omega, fun j hj => absurd hj (Nat.not_lt_zero _), rfl⟩ ?_
  rintro ⟨i, _⟩ w2 ⟨i, rfl, hi, hno, rfl⟩ I2 hI2
  dsimp only at *
  refine ldSl_of (x := lo) (ht1.blk.cells 0 _ rfl) ?_
  rw [ht1.lo.rd.n]
  refine cond_of (fun hlt => ?_) (fun hge => ?_)
  · have hlt := of_decide_eq_true hlt
    have hil : i < ls.length := by omega
    obtain ⟨x, hx, hxs⟩ := get_of (xs := ls) (k := i) hil
    have h15 := h.good.1 x (List.mem_of_getElem? hx)
    refine joinP_of fun J hJ => ?_
    rw [wrap64_id (x := (i : Int) + 1) (by omega)] at hJ
    have yes : isCode ls n (msb bs at_ n) i → J (true, ()) w2 := fun hc => hJ _ _ (cond_t rfl (hK w2 (at_ + n) _ _ h1 hc1 (by rw [inv.found hc]; exact ⟨rfl, rfl, rfl, hil⟩)))
    have no : ¬ isCode ls n (msb bs at_ n) i → J (false, ()) w2 := fun hc => hJ _ _ (cond_f rfl (hI2 _ _ ⟨i + 1, rfl, by omega, fun j hj => by
      by_cases e : j = i
      · subst e; exact hc
      · exact hno j (by omega), rfl⟩ (by simp; omega)))
    refine cond_of (fun hp => ?_) (fun hp => no fun hc => by have := of_decide_eq_false hp; have := hc.1; omega)
    have hp := of_decide_eq_true hp
    refine ldSl_of (x := lo) (ht1.blk.cells 0 _ rfl) ?_
    refine ht1.lo.rd.ix (i := (i : Int)) rfl (by omega) (by omega) fun hc => ?_
    rw [hxs] at hc
    refine ldB8 (b := x) hc ?_
    rw [wrap_nat .i64 (x := x.toNat) (by show _ < 2 ^ 63; omega)]
    refine cond_of (fun he => ?_) (fun he => no fun hc => ?_)
    · have he : x.toNat = n := by have := eq_of_beq he; omega
      have hcv : ∀ h, (rcodesL ls 16 0)[((i : Int)).toNat]'h = ((codeK ls x.toNat i : Nat) : Int) := fun hh => by
        rw [List.getElem_eq_iff]
        rw [show ((i : Int)).toNat = i from rfl, rcodesL_get hx, if_pos (by omega)]
      refine ldSl_of (x := co) (ht1.blk.cells 1 _ rfl) ?_
      refine ht1.co.rd.ix (i := (i : Int)) rfl (by omega) (by rw [rcodesL_length]; omega) fun hc2 => ?_
      rw [hcv] at hc2
      refine ldI_of (x := ((codeK ls x.toNat i : Nat) : Int)) (by simpa using hc2 0 _ rfl) ?_
      by_cases hcc : codeK ls n i = msb bs at_ n
      · have := yes ⟨by omega, x, hx, he, hcc⟩
        rw [show (((codeK ls x.toNat i : Nat) : Int) == ((msb bs at_ n : Nat) : Int)) = true from beq_iff_eq.2 (by rw [he, hcc])]
        exact this
      · have := no fun ⟨_, y, hy, hyk, hyc⟩ => hcc hyc
        rw [show (((codeK ls x.toNat i : Nat) : Int) == ((msb bs at_ n : Nat) : Int)) = false from beq_eq_false_iff_ne.2 (by rw [he]; omega)]
        exact this
    · have he := beq_eq_false_iff_ne.1 he
      obtain ⟨_, y, hy, hyk, hyc⟩ := hc
      rw [hx] at hy
      obtain rfl := Option.some.inj hy
      omega
  · have hge := of_decide_eq_false hge
    have hnone : ∀ i, ¬ isCode ls n (msb bs at_ n) i := fun j hc => by
      obtain ⟨_, y, hy, _, _⟩ := id hc
      have := (List.getElem?_eq_some_iff.1 hy).1
      exact hno j (by omega) hc
    obtain ⟨nx1, nx2⟩ := inv.next h.good hnone
    refine begins_spec ht1 hn15 (fun hb => ?_) (fun hb => ?_)
    · obtain ⟨hn, hs, hi'⟩ := nx2 hb
      refine cond_f rfl ?_
      refine rBits_spec (n := 1) h1 (by decide) (fun hfit w3 h3 hc3 => ?_) (fun hsh => ?_)
      · refine cond_f rfl ⟨by decide, ?_⟩
        have hm := msb_lt bs at_ n
        have hp : 2 ^ n ≤ 2 ^ 15 := Nat.pow_le_pow_right (by decide) hn15
        have hb1 := peekN_lt bs (at_ + n) 1
        rw [show min ((1 : Int)).toNat IntKind.u32.bits = 1 by decide, mul_pow_nat, wrap_nat .u32 (x := msb bs at_ n * 2 ^ 1) (by show _ < 2 ^ 32; omega), bits_or .u32 (by show _ < 2 ^ 32; omega) (by show _ < 2 ^ 32; omega), Nat.pow_one, Nat.mul_comm, two_or _ _ (by omega), wrap64_id (by omega)]
        exact hI (16 - (n + 1)) _ w3 ⟨n + 1, rfl, rfl, rfl, hi' (by omega), by rw [← Nat.add_assoc]; exact h3, hc1.trans hc3 fun i _ hi => hi⟩ (by omega)
      · refine cond_t rfl ?_
        have hcd := hc1.trans (Chg.of_ext (S := fun k => k = g) ((Below.refl _ w2).drew)) fun i _ hi => hi
        refine h1.drew.set_ (n := at_) hle fun w3 h3 hc3 => ?_
        exact hK w3 at_ _ _ h3 (hcd.trans hc3 fun i _ hi => hi) (by rw [hs (by omega)]; exact ⟨rfl, rfl⟩)
    · refine cond_t rfl ?_
      refine h1.set_ (n := at_) hle fun w3 h3 hc3 => ?_
      exact hK w3 at_ _ _ h3 (hc1.trans hc3 fun i _ hi => hi) (by rw [nx1 hb]; exact ⟨rfl, rfl⟩)
end
end Go.Proofs.Yteffnkpplhcomaa

namespace Go.Proofs.Yteffnkpplhcomaa
open Go.Vc Go.RowKit
set_option maxRecDepth 400000

structure RSt (w : World) (base g rg : Nat) (s out : Slc) (bs hist : List UInt8) (most at_ : Nat) : Prop where
  blk : Blk w g ty_phosphorref5_state [.pointer (some ⟨rg, 0, none⟩), .slice out.a out.n out.c, .int .i64 (most : Int)]
  rdr : RRd w rg s bs at_
  out : Own E_uint8 w base out hist
  hg : base ≤ g
  hr : base ≤ rg
  sb : ∀ k, s.blk = some k → k < base
  hm : hist.length ≤ most
  mo : most ≤ 1073741824
def rS (g rg : Nat) (out : Slc) (k : Nat) : Prop := k = g ∨ k = rg ∨ out.blk = some k
structure RTo (w w' : World) (g rg : Nat) (out out' : Slc) : Prop where
  chg : Chg (rS g rg out) w w'
  out : out'.blk = out.blk ∨ ∃ k, out'.blk = some k ∧ w.heap.size ≤ k
theorem RTo.refl (w : World) (g rg : Nat) (out : Slc) : RTo w w g rg out out := ⟨Chg.refl _ _, .inl rfl⟩
theorem RTo.trans {w w1 w2 : World} {g rg : Nat} {out out1 out2 : Slc} (h : RTo w w1 g rg out out1) (h' : RTo w1 w2 g rg out1 out2) : RTo w w2 g rg out out2 := by
  refine ⟨h.chg.trans h'.chg fun i hi hs => ?_, ?_⟩
  · rcases hs with e | e | e
    · exact .inl e
    · exact .inr (.inl e)
    · rcases h.out with e' | ⟨k, e', hk⟩
      · exact .inr (.inr (by rw [← e', e]))
      · rw [e'] at e; cases e; omega
  · have := h.chg.size
    rcases h'.out with e | ⟨k, e, hk⟩
    · rcases h.out with e' | ⟨j, e', hj⟩
      · exact .inl (e.trans e')
      · exact .inr ⟨j, e.trans e', hj⟩
    · exact .inr ⟨k, e, by omega⟩
section
variable {w w' : World} {base g rg : Nat} {s out : Slc} {bs hist : List UInt8} {most at_ : Nat}
theorem RSt.grg (h : RSt w base g rg s out bs hist most at_) : g ≠ rg := h.blk.ne_t h.rdr.blk (by decide)
theorem RSt.below (h : RSt w base g rg s out bs hist most at_) : ∀ k, rS g rg out k → base ≤ k := by
  rintro k (rfl | rfl | e)
  · exact h.hg
  · exact h.hr
  · exact (h.out.lt k e).1
theorem RTo.below {out' : Slc} (t : RTo w w' g rg out out') (h : RSt w base g rg s out bs hist most at_) (hb : base ≤ w.heap.size) : Below base w w' := t.chg.below hb fun i hi hs => by have := h.below i hs; omega
theorem RSt.ext (h : RSt w base g rg s out bs hist most at_) (hb : Below w.heap.size w w') : RSt w' base g rg s out bs hist most at_ := ⟨h.blk.ext hb, h.rdr.ext hb, h.out.ext hb, h.hg, h.hr, h.sb, h.hm, h.mo⟩
theorem RSt.drew (h : RSt w base g rg s out bs hist most at_) : RSt w.drew base g rg s out bs hist most at_ := h.ext ((Below.refl _ w).drew)
theorem RTo.drew (w : World) (g rg : Nat) (out : Slc) : RTo w w.drew g rg out out := ⟨Chg.of_ext ((Below.refl _ w).drew), .inl rfl⟩
/-- Only the reader has turned. -/
theorem RSt.read {a : Nat} (h : RSt w base g rg s out bs hist most at_) (hr : RRd w' rg s bs a) (hc : Chg (fun k => k = rg) w w') : RSt w' base g rg s out bs hist most a ∧ RTo w w' g rg out out :=
  ⟨⟨h.blk.chg hc fun e => h.grg e, hr, h.out.chg hc fun k hk e => own_ne_blk h.out h.rdr.blk (by decide) k hk e, h.hg, h.hr, h.sb, h.hm, h.mo⟩, ⟨hc.mono fun i _ hi => .inr (.inl hi), .inl rfl⟩⟩
theorem sBits_spec {n : Nat} {K : Int → Bool → World → Prop} (h : RSt w base g rg s out bs hist most at_) (hn : n ≤ 32) (hK1 : at_ + n ≤ 8 * bs.length → ∀ w', RSt w' base g rg s out bs hist most (at_ + n) → RTo w w' g rg out out → K ((peekN bs at_ n : Nat) : Int) true w')
    (hK2 : 8 * bs.length < at_ + n → ∀ w', RSt w' base g rg s out bs hist most at_ → RTo w w' g rg out out → K 0 false w') : c_phosphorref1_Reader_Bits (some ⟨rg, 0, none⟩) (n : Int) w K :=
  rBits_spec h.rdr hn (fun hf w1 h1 hc => (hK1 hf w1 (h.read h1 hc).1 (h.read h1 hc).2)) fun hs => hK2 hs _ h.drew (RTo.drew w g rg out)
/-- A byte more. -/
theorem RSt.put {b : UInt8} {v : Int} {K : World → Prop} (h : RSt w base g rg s out bs hist most at_) (hb : base ≤ w.heap.size) (hv : v = (b.toNat : Int)) (hlt : hist.length < most)
    (hK : ∀ out' w', RSt w' base g rg s out' bs (hist ++ [b]) most at_ → RTo w w' g rg out out' → K w') :
    nw ty_uint8 [(.int .u8 v)] w fun t71 w6 => apK PG #[ty_sl_uint8, ty_sl_uint8] ty_sl_uint8 out (⟨(some t71), 1, 1⟩ : Slc) w6 fun t72 w7 => stK ((⟨g, 0, none⟩ : Addr).add 1) [(.slice t72.a t72.n t72.c)] w7 fun w8 => K w8 := by
  have hmo := h.mo
  refine apB1 (c := b) hv h.out hb (by omega) fun r w2 ho2 hc2 hq => ?_
  have hb2 := h.blk.chg hc2 fun e => own_ne_blk h.out h.blk (by decide) g e rfl
  have hr2 := h.rdr.chg hc2 (fun e => own_ne_blk h.out h.rdr.blk (by decide) rg e rfl) fun k hk e => by have := h.sb k hk; have := (h.out.lt k e).1; omega
  rw [add_mk]
  refine stK_blk hb2 (by simp) fun w3 hb3 hg3 hs3 => ?_
  have hb3 : Blk w3 g ty_phosphorref5_state [.pointer (some ⟨rg, 0, none⟩), .slice r.a r.n r.c, .int .i64 (most : Int)] := hb3
  have hc3 := Chg.gg hg3
  have hgh := h.hg
  refine hK r w3 ⟨hb3, hr2.chg hc3 (fun e => h.grg e.symm) fun k hk e => by have := h.sb k hk; omega, ho2.chg hc3 (own_ne_blk ho2 hb2 (by decide)), h.hg, h.hr, h.sb, by rw [List.length_append, List.length_singleton]; omega, h.mo⟩ ⟨(hc2.mono fun i _ hi => .inr (.inr hi)).trans hc3 fun i _ hi => .inl hi, hq⟩
end

/-! ### What a part of the document's inflate comes to, by the machine -/
def RRes (most : Nat) (bs : List UInt8) (c : Cfg) (a m' : Nat) (e : Int) (a' : Nat) (hist' : List UInt8) : Prop :=
  (e = 0 ∧ ∃ c', Ch most bs c a c' a' ∧ c'.mode = m' ∧ c'.hist = hist') ∨
  (∃ c' a'' n, Ch most bs c a c' a'' ∧ (step1 most bs a'' c' = .short ∧ c'.mode ≠ 5 ∧ n = 2 ∨ step1 most bs a'' c' = .err n ∧ n ≠ 0) ∧ e = ((n : Nat) : Int) ∧ c'.hist <+: hist')
theorem RRes.of_ch {most : Nat} {bs : List UInt8} {c c1 : Cfg} {a a1 m' : Nat} {e : Int} {a' : Nat} {hist' : List UInt8} (h : Ch most bs c a c1 a1) (r : RRes most bs c1 a1 m' e a' hist') : RRes most bs c a m' e a' hist' := by
  rcases r with ⟨e0, c', h1, h2, h3⟩ | ⟨c', a'', n, h1, h2⟩
  · exact .inl ⟨e0, c', h.trans h1, h2, h3⟩
  · exact .inr ⟨c', a'', n, h.trans h1, h2⟩
theorem RRes.short {most : Nat} {bs : List UInt8} {c : Cfg} {a m' : Nat} {a' : Nat} {hist' : List UInt8} (h : step1 most bs a c = .short) (h5 : c.mode ≠ 5) (hp : c.hist <+: hist') : RRes most bs c a m' 2 a' hist' := .inr ⟨c, a, 2, .refl _ _, .inl ⟨h, h5, rfl⟩, rfl, hp⟩
theorem RRes.err {most : Nat} {bs : List UInt8} {c : Cfg} {a m' : Nat} {a' n : Nat} {e : Int} {hist' : List UInt8} (h : step1 most bs a c = .err n) (hn : n ≠ 0) (he : e = (n : Int)) (hp : c.hist <+: hist') : RRes most bs c a m' e a' hist' := .inr ⟨c, a, n, .refl _ _, .inr ⟨h, hn⟩, he, hp⟩
theorem RRes.done {most : Nat} {bs : List UInt8} {c c' : Cfg} {a a' : Nat} (h : step1 most bs a c = .next c' a') : RRes most bs c a c'.mode 0 a' c'.hist := .inl ⟨rfl, c', .one h, rfl, rfl⟩

section
variable {w : World} {base g rg : Nat} {s out : Slc} {bs : List UInt8} {most at_ : Nat}
theorem rstored_spec {c : Cfg} {K : Int → World → Prop} (h : RSt w base g rg s out bs c.hist most at_) (hm : c.mode = 1) (hbase : base ≤ w.heap.size)
    (hK : ∀ e out' hist' a' w', RSt w' base g rg s out' bs hist' most a' → RTo w w' g rg out out' → RRes most bs c at_ (if c.last then 5 else 0) e a' hist' → K e w') : c_phosphorref5_state_stored (some ⟨g, 0, none⟩) w K := by
  refine call_phosphorref5_state_stored _ ?_
  unfold sh_phosphorref5_state_stored
  simp only [onPtr_some]
  have hsm := h.rdr.sm
  have st1 : step1 most bs at_ c = stepStored bs at_ c := by rw [step1, if_neg (by omega), stepN, if_neg (by omega), if_pos hm]
  have hpre : c.hist <+: c.hist := List.prefix_refl _
  refine ldP_of (x := some ⟨rg, 0, none⟩) (h.blk.cells 0 _ rfl) ?_
  refine rAlign_spec h.rdr fun _ w1 h1 hc1 => ?_
  obtain ⟨h1, t1⟩ := h.read h1 hc1
  refine ldP_of (x := some ⟨rg, 0, none⟩) (h1.blk.cells 0 _ rfl) ?_
  refine sBits_spec (n := 16) h1 (by decide) (fun hf1 w2 h2 t2 => ?_) (fun hs1 w2 h2 t2 => ?_)
  rotate_left
  · refine cond_t rfl (hK _ _ _ _ _ h2 (t1.trans t2) (RRes.short ?_ (by omega) hpre))
    rw [st1, stepStored, if_pos (by omega)]
  refine cond_f rfl ?_
  refine ldP_of (x := some ⟨rg, 0, none⟩) (h2.blk.cells 0 _ rfl) ?_
  refine sBits_spec (n := 16) h2 (by decide) (fun hf2 w3 h3 t3 => ?_) (fun hs2 w3 h3 t3 => ?_)
  rotate_left
  · refine cond_t rfl (hK _ _ _ _ _ h3 ((t1.trans t2).trans t3) (RRes.short ?_ (by omega) hpre))
    rw [st1, stepStored, if_pos (by omega)]
  refine cond_f rfl ?_
  have b1 := peekN_lt bs (up8 at_) 16
  have b2 := peekN_lt bs (up8 at_ + 16) 16
  have t03 := (t1.trans t2).trans t3
  rw [bits_xor .u32 (by show _ < 2 ^ 32; omega) (by show _ < 2 ^ 32; omega)]
  by_cases hx : peekN bs (up8 at_) 16 ^^^ peekN bs (up8 at_ + 16) 16 = 65535
  rotate_left
  · refine cond_t (by have : ((peekN bs (up8 at_) 16 ^^^ peekN bs (up8 at_ + 16) 16 : Nat) : Int) ≠ 65535 := by omega
                      simpa using this) (hK _ _ _ _ _ h3 t03 (RRes.err (n := 3) ?_ (by decide) rfl hpre))
    rw [st1, stepStored, if_neg (by omega), if_pos hx]
  refine cond_f (by rw [hx]; rfl) ?_
  obtain ⟨n, hn⟩ : ∃ n, n = peekN bs (up8 at_) 16 := ⟨_, rfl⟩
  rw [← hn, wrap_nat .i64 (x := n) (by show _ < 2 ^ 63; omega)]
  obtain ⟨c2, hc2⟩ : ∃ c2 : Cfg, c2 = { c with mode := 2, left := n } := ⟨_, rfl⟩
  have hst : step1 most bs at_ c = .next c2 (up8 at_ + 32) := by
    rw [st1, stepStored, if_neg (by omega), if_neg (by omega), ← hn, hc2]
  have ebase : ∀ {w4 out4}, RTo w w4 g rg out out4 → base ≤ w4.heap.size := fun t => Nat.le_trans hbase t.chg.size
  refine loopP_rule (fun (t : Int × Unit) w4 => ∃ (i : Nat) (out4 : Slc) (c4 : Cfg), t.1 = i ∧ i ≤ n ∧ RSt w4 base g rg s out4 bs c4.hist most (up8 at_ + 32 + 8 * i) ∧ RTo w w4 g rg out out4 ∧ Ch most bs c at_ c4 (up8 at_ + 32 + 8 * i) ∧ c4.mode = 2 ∧ c4.left = n - i ∧ c4.last = c.last) (fun t => n - t.1.toNat)
    ⟨0, out, c2, rfl, by omega, by rw [hc2]; exact h3, t03, .one hst, by rw [hc2], by rw [hc2]; rfl, by rw [hc2]⟩ ?_
  rintro ⟨i, _⟩ w4 ⟨i, out4, c4, rfl, hi, h4, t4, hch, hm4, hl4, hla⟩ I hI
  dsimp only at *
  have st4 : step1 most bs (up8 at_ + 32 + 8 * i) c4 = stepByte most bs (up8 at_ + 32 + 8 * i) c4 := by rw [step1, if_neg (by omega), stepN, if_neg (by omega), if_neg (by omega), if_pos hm4]
  have hpre4 : c4.hist <+: c4.hist := List.prefix_refl _
  refine cond_of (fun hlt => ?_) (fun hge => ?_)
  · have hlt := of_decide_eq_true hlt
    refine ldP_of (x := some ⟨rg, 0, none⟩) (h4.blk.cells 0 _ rfl) ?_
    refine sBits_spec (n := 8) h4 (by decide) (fun hf w5 h5 t5 => ?_) (fun hs w5 h5 t5 => ?_)
    rotate_left
    · refine cond_t rfl (hK _ _ _ _ _ h5 (t4.trans t5) (.of_ch hch (RRes.short ?_ (by omega) hpre4)))
      rw [st4, stepByte, if_neg (by omega), if_pos hs]
    refine cond_f rfl ?_
    have h5d := h5.drew
    have t5d := t5.trans (RTo.drew w5 g rg out4)
    refine ldSl_of (x := out4) (h5d.blk.cells 1 _ rfl) ?_
    refine ldI_of (x := (most : Int)) (h5d.blk.cells 2 _ rfl) ?_
    rw [h5d.out.rd.n]
    refine cond_of (fun hfull => ?_) (fun hroom => ?_)
    · have hfull := of_decide_eq_true hfull
      refine hK _ _ _ _ _ h5d (t4.trans t5d) (.of_ch hch (RRes.err (n := 5) ?_ (by decide) rfl hpre4))
      rw [st4, stepByte, if_neg (by omega), if_neg (by omega), if_pos (by omega)]
    · have hroom := of_decide_eq_false hroom
      refine ldSl_of (x := out4) (h5d.blk.cells 1 _ rfl) ?_
      have hb8 := peekN_lt bs (up8 at_ + 32 + 8 * i) 8
      have hbv : (UInt8.ofNat (peekN bs (up8 at_ + 32 + 8 * i) 8)).toNat = peekN bs (up8 at_ + 32 + 8 * i) 8 := by rw [UInt8.toNat_ofNat']; omega
      refine h5d.put (b := UInt8.ofNat (peekN bs (up8 at_ + 32 + 8 * i) 8)) (ebase (t4.trans t5d)) (by rw [hbv, wrap_nat .u8 (x := peekN bs (up8 at_ + 32 + 8 * i) 8) hb8]) (by omega) fun out6 w6 h6 t6 => ?_
      rw [wrap64_id (by omega)]
      have hst4 : step1 most bs (up8 at_ + 32 + 8 * i) c4 = .next { c4 with left := c4.left - 1, hist := c4.hist ++ [UInt8.ofNat (peekN bs (up8 at_ + 32 + 8 * i) 8)] } (up8 at_ + 32 + 8 * i + 8) := by
        rw [st4, stepByte, if_neg (by omega), if_neg (by omega), if_neg (by omega)]
      have ea : up8 at_ + 32 + 8 * (i + 1) = up8 at_ + 32 + 8 * i + 8 := by omega
      refine hI _ _ ⟨i + 1, out6, { c4 with left := c4.left - 1, hist := c4.hist ++ [UInt8.ofNat (peekN bs (up8 at_ + 32 + 8 * i) 8)] }, rfl, by omega, by rw [ea]; exact h6, (t4.trans t5d).trans t6, by rw [ea]; exact hch.trans (.one hst4), hm4, ?_, hla⟩ (by simp; omega)
      show c4.left - 1 = _
      omega
  · have hge := of_decide_eq_false hge
    have : i = n := by omega
    subst this
    have hend : step1 most bs (up8 at_ + 32 + 8 * i) c4 = .next c4.behind (up8 at_ + 32 + 8 * i) := by
      rw [st4, stepByte, if_pos (by omega)]
    have r := RRes.of_ch hch (RRes.done hend)
    have em : c4.behind.mode = if c.last then 5 else 0 := by unfold Cfg.behind; rw [hla]
    rw [em] at r
    exact hK _ _ _ _ _ h4 t4 r

theorem rlength_spec {y : Nat} {K : Int → Int → World → Prop} (h1 : 257 ≤ y) (h2 : y ≤ 285) (hK : K ((lenBase y).1 : Int) ((lenBase y).2 : Int) w) : c_phosphorref5_length (y : Int) w K := by
  refine call_phosphorref5_length _ ?_
  unfold sh_phosphorref5_length
  unfold lenBase at hK
  by_cases h : y = 285
  · subst h
    exact cond_t rfl hK
  rw [if_neg h] at hK
  refine cond_f (beq_eq_false_iff_ne.2 (by omega)) ?_
  obtain ⟨k, rfl⟩ : ∃ k, y = k + 257 := ⟨y - 257, by omega⟩
  have hk : k ≤ 27 := by omega
  rw [Nat.add_sub_cancel] at hK
  rw [wrap64_id (x := ((k + 257 : Nat) : Int) - 257) (by omega), show ((k + 257 : Nat) : Int) - 257 = (k : Int) by omega]
  by_cases h8 : k < 8
  · rw [if_pos h8] at hK
    refine cond_t (decide_eq_true (by omega)) ?_
    rw [wrap64_id (by omega), show (3 : Int) + (k : Int) = ((3 + k : Nat) : Int) by omega]
    exact hK
  · rw [if_neg h8] at hK
    refine cond_f (decide_eq_false (by omega)) ⟨by decide, by decide, ?_⟩
    rw [show (4 : Int) = ((4 : Nat) : Int) from rfl, ← Int.ofNat_tdiv, ← Int.ofNat_tmod, wrap64_id (x := ((k / 4 : Nat) : Int)) (by omega), wrap64_id (x := ((k / 4 : Nat) : Int) - 1) (by omega), show ((k / 4 : Nat) : Int) - 1 = ((k / 4 - 1 : Nat) : Int) by omega,
      wrap_nat .u64 (x := k / 4 - 1) (by show _ < 2 ^ 64; omega)]
    refine ⟨by omega, ?_⟩
    have em : min (((k / 4 - 1 : Nat) : Int)).toNat IntKind.i64.bits = k / 4 - 1 := by show min (k / 4 - 1) 64 = _; omega
    have hp : 2 ^ (k / 4 - 1) ≤ 2 ^ 6 := Nat.pow_le_pow_right (by decide) (by omega)
    have hmul : (4 + k % 4) * 2 ^ (k / 4 - 1) ≤ 8 * 2 ^ 6 := Nat.mul_le_mul (by omega) hp
    rw [em, show ((4 : Nat) : Int) + ((k % 4 : Nat) : Int) = ((4 + k % 4 : Nat) : Int) from rfl, wrap_nat .i64 (x := 4 + k % 4) (by show _ < 2 ^ 63; omega), mul_pow_nat, wrap_nat .i64 (x := (4 + k % 4) * 2 ^ (k / 4 - 1)) (by show _ < 2 ^ 63; omega),
      show (3 : Int) + (((4 + k % 4) * 2 ^ (k / 4 - 1) : Nat) : Int) = ((3 + (4 + k % 4) * 2 ^ (k / 4 - 1) : Nat) : Int) by omega, wrap_nat .i64 (x := 3 + (4 + k % 4) * 2 ^ (k / 4 - 1)) (by show _ < 2 ^ 63; omega)]
    exact hK
theorem rdistance_spec {y : Nat} {K : Int → Int → World → Prop} (h2 : y < 30) (hK : K ((distBase y).1 : Int) ((distBase y).2 : Int) w) : c_phosphorref5_distance (y : Int) w K := by
  refine call_phosphorref5_distance _ ?_
  unfold sh_phosphorref5_distance
  unfold distBase at hK
  by_cases h4 : y < 4
  · rw [if_pos h4] at hK
    refine cond_t (decide_eq_true (by omega)) ?_
    rw [wrap64_id (by omega), show (1 : Int) + (y : Int) = ((1 + y : Nat) : Int) by omega]
    exact hK
  · rw [if_neg h4] at hK
    refine cond_f (decide_eq_false (by omega)) ⟨by decide, by decide, ?_⟩
    rw [show (2 : Int) = ((2 : Nat) : Int) from rfl, ← Int.ofNat_tdiv, ← Int.ofNat_tmod, wrap64_id (x := ((y / 2 : Nat) : Int)) (by omega), wrap64_id (x := ((y / 2 : Nat) : Int) - 1) (by omega), show ((y / 2 : Nat) : Int) - 1 = ((y / 2 - 1 : Nat) : Int) by omega,
      wrap_nat .u64 (x := y / 2 - 1) (by show _ < 2 ^ 64; omega)]
    refine ⟨by omega, ?_⟩
    have em : min (((y / 2 - 1 : Nat) : Int)).toNat IntKind.i64.bits = y / 2 - 1 := by show min (y / 2 - 1) 64 = _; omega
    have hp : 2 ^ (y / 2 - 1) ≤ 2 ^ 13 := Nat.pow_le_pow_right (by decide) (by omega)
    have hmul : (2 + y % 2) * 2 ^ (y / 2 - 1) ≤ 4 * 2 ^ 13 := Nat.mul_le_mul (by omega) hp
    have e2 : (((2 : Nat) : Int)) ^ (y / 2 - 1) = (2 : Int) ^ (y / 2 - 1) := rfl
    rw [em, show ((2 : Nat) : Int) + ((y % 2 : Nat) : Int) = ((2 + y % 2 : Nat) : Int) from rfl, wrap_nat .i64 (x := 2 + y % 2) (by show _ < 2 ^ 63; omega), e2, mul_pow_nat, wrap_nat .i64 (x := (2 + y % 2) * 2 ^ (y / 2 - 1)) (by show _ < 2 ^ 63; omega),
      show (1 : Int) + (((2 + y % 2) * 2 ^ (y / 2 - 1) : Nat) : Int) = ((1 + (2 + y % 2) * 2 ^ (y / 2 - 1) : Nat) : Int) by omega, wrap_nat .i64 (x := 1 + (2 + y % 2) * 2 ^ (y / 2 - 1)) (by show _ < 2 ^ 63; omega)]
    exact hK
end
end Go.Proofs.Yteffnkpplhcomaa

namespace Go.Proofs.Yteffnkpplhcomaa
open Go.Vc Go.RowKit
set_option maxRecDepth 400000

def copyR (most : Nat) (bs : List UInt8) (a1 y : Nat) (c : Cfg) : SR :=
  if 8 * bs.length < a1 + (lenBase y).2 then .short
  else match readT c.ds bs (a1 + (lenBase y).2) with
    | .short => .short
    | .form => .err 3
    | .sym z j =>
      if 29 < z then .err 3
      else if 8 * bs.length < a1 + (lenBase y).2 + j + (distBase z).2 then .short
      else if min c.hist.length 32768 < (distBase z).1 + peekN bs (a1 + (lenBase y).2 + j) (distBase z).2 then .err 3
      else match copyN most ((distBase z).1 + peekN bs (a1 + (lenBase y).2 + j) (distBase z).2) ((lenBase y).1 + peekN bs a1 (lenBase y).2) c.hist with
        | none => .err 5
        | some h => .next { c with hist := h } (a1 + (lenBase y).2 + j + (distBase z).2)
theorem stepCode_copy {most : Nat} {bs : List UInt8} {at_ y k : Nat} {c : Cfg} (h : readT c.sg bs at_ = .sym y k) (h1 : 256 < y) (h2 : y ≤ 285) : stepCode most bs at_ c = copyR most bs (at_ + k) y c := by
  unfold stepCode
  rw [h]
  dsimp only
  rw [if_neg (by omega), if_neg (by omega), if_neg (by omega)]
  rfl

/-- A table that the state does not touch. -/
def TabK (w : World) (base : Nat) (out : Slc) (t : Nat × Slc × Slc) (ls : List UInt8) : Prop := RTab w base t.1 t.2.1 t.2.2 ls ∧ ∀ k, t.2.1.blk = some k → out.blk ≠ some k
section
variable {w w' : World} {base g rg : Nat} {s out out' : Slc} {bs hist ls : List UInt8} {most at_ : Nat} {t : Nat × Slc × Slc}
theorem TabK.keep (h : TabK w base out t ls) (hs : RSt w base g rg s out bs hist most at_) (r : RTo w w' g rg out out') : TabK w' base out' t ls := by
  obtain ⟨h, ho⟩ := h
  refine ⟨⟨h.blk.chg r.chg ?_, h.hg, h.lo.chg r.chg ?_, h.co.chg r.chg ?_, h.sm, h.good⟩, fun k hk e => ?_⟩
  · rintro (e | e | e)
    · exact h.blk.ne_t hs.blk (by decide) e
    · exact h.blk.ne_t hs.rdr.blk (by decide) e
    · exact own_ne_blk hs.out h.blk (by decide) _ e rfl
  · rintro k hk (e | e | e)
    · exact own_ne_blk h.lo hs.blk (by decide) k hk e
    · exact own_ne_blk h.lo hs.rdr.blk (by decide) k hk e
    · exact ho k hk e
  · rintro k hk (e | e | e)
    · exact own_ne_blk h.co hs.blk (by decide) k hk e
    · exact own_ne_blk h.co hs.rdr.blk (by decide) k hk e
    · exact own_ne h.co hs.out (by decide) k hk e
  · rcases r.out with e' | ⟨j, e', hj⟩
    · exact ho k hk (by rw [← e', e])
    · rw [e'] at e
      cases e
      have := (h.lo.lt k hk).2
      omega
theorem sRead_spec {K : Int → Int → World → Prop} (h : RSt w base g rg s out bs hist most at_) (ht : TabK w base out t ls)
    (hK : ∀ w' a' y e, RSt w' base g rg s out bs hist most a' → RTo w w' g rg out out → (match readT ls bs at_ with | .sym z k => e = 0 ∧ y = ((z : Nat) : Int) ∧ a' = at_ + k ∧ z < ls.length | .short => e = 2 ∧ a' = at_ | .form => e = 3 ∧ a' = at_) → K y e w') : c_phosphorref4_Table_Read (some ⟨t.1, 0, none⟩) (some ⟨rg, 0, none⟩) w K :=
  rRead_spec ht.1 h.rdr (fun e => h.rdr.blk.ne_t ht.1.blk (by decide) e) (fun k hk => by
    rcases hk with hk | hk
    · exact own_ne_blk ht.1.lo h.rdr.blk (by decide) k hk
    · exact own_ne_blk ht.1.co h.rdr.blk (by decide) k hk) fun w1 a' y e hr hc hm => hK w1 a' y e (h.read hr hc).1 (h.read hr hc).2 hm

theorem copyN_prefix {most far : Nat} : ∀ (n : Nat) (h h' : List UInt8), copyN most far n h = some h' → h <+: h'
  | 0, h, h', e => by cases e; exact List.prefix_refl _
  | n + 1, h, h', e => by
    rw [copyN] at e
    split at e
    · cases e
    · exact (List.prefix_append _ _).trans (copyN_prefix n _ _ e)

theorem rlenBase_le {y : Nat} (h1 : 257 ≤ y) (h2 : y ≤ 285) : (lenBase y).1 ≤ 258 ∧ (lenBase y).2 ≤ 5 := by
  have : ∀ y, y < 286 → 257 ≤ y → (lenBase y).1 ≤ 258 ∧ (lenBase y).2 ≤ 5 := by decide +kernel
  exact this y (by omega) h1
theorem rdistBase_le {y : Nat} (h2 : y < 30) : 1 ≤ (distBase y).1 ∧ (distBase y).1 ≤ 24577 ∧ (distBase y).2 ≤ 13 := by
  have : ∀ y, y < 30 → 1 ≤ (distBase y).1 ∧ (distBase y).1 ≤ 24577 ∧ (distBase y).2 ≤ 13 := by decide +kernel
  exact this y h2

theorem copied_spec {c : Cfg} {y : Nat} {K : Int → World → Prop} (h : RSt w base g rg s out bs c.hist most at_) (ht : TabK w base out t c.ds) (h1 : 257 ≤ y) (h2 : y ≤ 285) (hbase : base ≤ w.heap.size)
    (hK : ∀ e out' hist' a' w', RSt w' base g rg s out' bs hist' most a' → RTo w w' g rg out out' → (match copyR most bs at_ y c with | .next c' a => e = 0 ∧ hist' = c'.hist ∧ a' = a | .short => e = 2 ∧ c.hist <+: hist' | .err n => e = ((n : Nat) : Int) ∧ n ≠ 0 ∧ c.hist <+: hist') → K e w') : c_phosphorref5_state_copied (some ⟨g, 0, none⟩) (y : Int) (some ⟨t.1, 0, none⟩) w K := by
  refine call_phosphorref5_state_copied _ _ _ ?_
  unfold sh_phosphorref5_state_copied
  have hpre : c.hist <+: c.hist := List.prefix_refl _
  obtain ⟨lb1, lb2⟩ := rlenBase_le h1 h2
  refine rlength_spec h1 h2 ?_
  simp only [onPtr_some]
  obtain ⟨b, n, hbn⟩ : ∃ b n, lenBase y = (b, n) := ⟨_, _, rfl⟩
  unfold copyR at hK
  rw [hbn] at hK lb1 lb2 ⊢
  dsimp only at hK lb1 lb2 ⊢
  refine ldP_of (x := some ⟨rg, 0, none⟩) (h.blk.cells 0 _ rfl) ?_
  refine sBits_spec (n := n) h (by omega) (fun hf1 w1 h3 t1 => ?_) (fun hs1 w1 h3 t1 => ?_)
  rotate_left
  · refine cond_t rfl (hK _ _ _ _ _ h3 t1 ?_)
    rw [if_pos hs1]
    exact ⟨rfl, hpre⟩
  rw [if_neg (by omega)] at hK
  refine cond_f rfl ?_
  refine ldP_of (x := some ⟨rg, 0, none⟩) (h3.blk.cells 0 _ rfl) ?_
  have ht1 := ht.keep h t1
  refine sRead_spec h3 ht1 fun w2 a2 z e h4 t2 hm => ?_
  have t02 := t1.trans t2
  cases hrd : readT c.ds bs (at_ + n) with
  | short =>
    rw [hrd] at hm hK
    obtain ⟨rfl, rfl⟩ := hm
    exact cond_t rfl (hK _ _ _ _ _ h4 t02 ⟨rfl, hpre⟩)
  | form =>
    rw [hrd] at hm hK
    obtain ⟨rfl, rfl⟩ := hm
    exact cond_t rfl (hK _ _ _ _ _ h4 t02 ⟨rfl, by decide, hpre⟩)
  | sym z' j =>
    rw [hrd] at hm hK
    obtain ⟨rfl, rfl, rfl, _⟩ := hm
    dsimp only at hK
    refine cond_f rfl ?_
    by_cases hz : 29 < z'
    · refine cond_t (decide_eq_true (by omega)) (hK _ _ _ _ _ h4 t02 ?_)
      rw [if_pos hz]
      exact ⟨rfl, by decide, hpre⟩
    rw [if_neg hz] at hK
    refine cond_f (decide_eq_false (by omega)) ?_
    obtain ⟨db0, db1, db2⟩ := rdistBase_le (y := z') (by omega)
    refine rdistance_spec (by omega) ?_
    obtain ⟨b2, n2, hbn2⟩ : ∃ b n, distBase z' = (b, n) := ⟨_, _, rfl⟩
    rw [hbn2] at hK db0 db1 db2 ⊢
    dsimp only at hK db0 db1 db2 ⊢
    refine ldP_of (x := some ⟨rg, 0, none⟩) (h4.blk.cells 0 _ rfl) ?_
    refine sBits_spec (n := n2) h4 (by omega) (fun hf3 w3 h5 t3 => ?_) (fun hs3 w3 h5 t3 => ?_)
    rotate_left
    · refine cond_t rfl (hK _ _ _ _ _ h5 (t02.trans t3) ?_)
      rw [if_pos hs3]
      exact ⟨rfl, hpre⟩
    rw [if_neg (by omega)] at hK
    refine cond_f rfl ?_
    have t03 := t02.trans t3
    have p1 := peekN_lt bs at_ n
    have p2 := peekN_lt bs (at_ + n + j) n2
    have q1 : 2 ^ n ≤ 2 ^ 5 := Nat.pow_le_pow_right (by decide) lb2
    have q2 : 2 ^ n2 ≤ 2 ^ 13 := Nat.pow_le_pow_right (by decide) db2
    have hmo := h.mo
    have hmm := h.hm
    obtain ⟨far, hfar⟩ : ∃ far, far = b2 + peekN bs (at_ + n + j) n2 := ⟨_, rfl⟩
    obtain ⟨m, hmdef⟩ : ∃ m, m = b + peekN bs at_ n := ⟨_, rfl⟩
    have ef : IntKind.i64.wrap ((b2 : Int) + IntKind.i64.wrap ((peekN bs (at_ + n + j) n2 : Nat) : Int)) = (far : Int) := by
      rw [wrap_nat .i64 (x := peekN bs (at_ + n + j) n2) (by show _ < 2 ^ 63; omega), wrap64_id (by omega), hfar]; rfl
    have eM : IntKind.i64.wrap ((b : Int) + IntKind.i64.wrap ((peekN bs at_ n : Nat) : Int)) = (m : Int) := by
      rw [wrap_nat .i64 (x := peekN bs at_ n) (by show _ < 2 ^ 63; omega), wrap64_id (by omega), hmdef]; rfl
    rw [ef, eM]
    rw [← hfar, ← hmdef] at hK
    refine joinP_of fun J hJ => ?_
    refine ldSl_of (x := out) (h5.blk.cells 1 _ rfl) ?_
    rw [h5.out.rd.n]
    by_cases hfl : min c.hist.length 32768 < far
    · have : K 3 w3 := hK _ _ _ _ _ h5 t03 (by rw [if_pos hfl]; exact ⟨rfl, by decide, hpre⟩)
      by_cases hl : c.hist.length < far
      · exact cond_t (decide_eq_true (by omega)) this
      · exact cond_f (decide_eq_false (by omega)) (cond_t (decide_eq_true (by omega)) this)
    rw [if_neg hfl] at hK
    refine cond_f (decide_eq_false (by omega)) (cond_f (decide_eq_false (by omega)) (hJ _ _ ?_))
    clear hJ
    have ebase : ∀ {w4 out4}, RTo w w4 g rg out out4 → base ≤ w4.heap.size := fun t => Nat.le_trans hbase t.chg.size
    refine loopP_rule (fun (t : Int × Unit) w4 => ∃ (i : Nat) (out4 : Slc) (h4 : List UInt8), t.1 = i ∧ i ≤ m ∧ RSt w4 base g rg s out4 bs h4 most (at_ + n + j + n2) ∧ RTo w w4 g rg out out4 ∧ copyN most far m c.hist = copyN most far (m - i) h4 ∧ c.hist <+: h4) (fun t => m - t.1.toNat)
      ⟨0, out, c.hist, rfl, by omega, h5, t03, rfl, hpre⟩ ?_
    rintro ⟨i, _⟩ w4 ⟨i, out4, hi4, rfl, hi, h6, t6, hcp, hpx⟩ I hI
    dsimp only at *
    have hlen := hpx.length_le
    have hm6 := h6.hm
    refine cond_of (fun hlt => ?_) (fun hge => ?_)
    · have hlt := of_decide_eq_true hlt
      have hmi : m - i = (m - (i + 1)) + 1 := by omega
      rw [hmi, copyN] at hcp
      have h6d := h6.drew
      refine ldSl_of (x := out4) (h6d.blk.cells 1 _ rfl) ?_
      refine ldI_of (x := (most : Int)) (h6d.blk.cells 2 _ rfl) ?_
      rw [h6d.out.rd.n]
      refine cond_of (fun hfull => ?_) (fun hroom => ?_)
      · have hfull := of_decide_eq_true hfull
        rw [if_pos (by omega)] at hcp
        refine hK 5 _ _ _ _ h6d (t6.trans (RTo.drew w4 g rg out4)) ?_
        rw [hcp]
        exact ⟨rfl, by decide, hpx⟩
      · have hroom := of_decide_eq_false hroom
        rw [if_neg (by omega)] at hcp
        have h6dd := h6d.drew
        have t6dd := (t6.trans (RTo.drew w4 g rg out4)).trans (RTo.drew _ g rg out4)
        refine ldSl_of (x := out4) (h6dd.blk.cells 1 _ rfl) ?_
        refine ldSl_of (x := out4) (h6dd.blk.cells 1 _ rfl) ?_
        refine ldSl_of (x := out4) (h6dd.blk.cells 1 _ rfl) ?_
        rw [h6dd.out.rd.n, wrap64_id (by omega), show ((hi4.length : Nat) : Int) - (far : Int) = ((hi4.length - far : Nat) : Int) by omega]
        have hin : hi4.length - far < hi4.length := by omega
        obtain ⟨x, hx, hxs⟩ := get_of (xs := hi4) (k := hi4.length - far) hin
        refine h6dd.out.rd.ix (i := ((hi4.length - far : Nat) : Int)) rfl (by omega) (by omega) fun hc => ?_
        rw [hxs] at hc
        refine ldB8 (b := x) hc ?_
        have hgd : hi4.getD (hi4.length - far) 0 = x := by rw [List.getD_eq_getElem?_getD, hx]; rfl
        rw [hgd] at hcp
        have key := h6dd.put (b := x) (v := (x.toNat : Int)) (K := fun w8 => I (IntKind.i64.wrap ((i : Int) + 1), ()) w8) (ebase t6dd) rfl (by omega) fun out6 w6 h7 t7 => by
          rw [wrap64_id (by omega)]
          exact hI _ _ ⟨i + 1, out6, hi4 ++ [x], rfl, by omega, h7, t6dd.trans t7, hcp, hpx.trans (List.prefix_append _ _)⟩ (by simp; omega)
        have hB : Below w4.drew.drew.heap.size w4.drew.drew (w4.drew.drew.alloc (.cells [Value.int .u8 (x.toNat : Int)].toArray ty_uint8)) := (Below.refl _ _).alloc (Nat.le_refl _) _
        have hcell := (h6dd.blk.ext hB).cells 1 _ rfl
        rw [h6dd.out.rd.n] at hcell
        exact ⟨hcell, key⟩
    · have hge := of_decide_eq_false hge
      have : i = m := by omega
      subst this
      rw [Nat.sub_self, copyN] at hcp
      refine hK 0 _ _ _ _ h6 t6 ?_
      rw [hcp]
      exact ⟨rfl, rfl, rfl⟩

theorem codes_spec {c : Cfg} {K : Int → World → Prop} {td : Nat × Slc × Slc} (h : RSt w base g rg s out bs c.hist most at_) (ht : TabK w base out t c.sg) (htd : TabK w base out td c.ds) (hm : c.mode = 4) (hbase : base ≤ w.heap.size)
    (hK : ∀ e out' hist' a' w', RSt w' base g rg s out' bs hist' most a' → RTo w w' g rg out out' → RRes most bs c at_ (if c.last then 5 else 0) e a' hist' → K e w') : c_phosphorref5_state_codes (some ⟨g, 0, none⟩) (some ⟨t.1, 0, none⟩) (some ⟨td.1, 0, none⟩) w K := by
  refine call_phosphorref5_state_codes _ _ _ ?_
  unfold sh_phosphorref5_state_codes
  simp only [onPtr_some]
  have ebase : ∀ {w4 out4}, RTo w w4 g rg out out4 → base ≤ w4.heap.size := fun t => Nat.le_trans hbase t.chg.size
  refine loopP_rule_w (fun m (_ : Unit) w4 => ∃ (out4 : Slc) (c4 : Cfg) (a4 : Nat), m = 8 * bs.length - a4 ∧ RSt w4 base g rg s out4 bs c4.hist most a4 ∧ RTo w w4 g rg out out4 ∧ Ch most bs c at_ c4 a4 ∧ c4.mode = 4 ∧ c4.sg = c.sg ∧ c4.ds = c.ds ∧ c4.last = c.last ∧ TabK w4 base out4 t c.sg ∧ TabK w4 base out4 td c.ds) _
    ⟨out, c, at_, rfl, h, RTo.refl _ _ _ _, .refl _ _, hm, rfl, rfl, rfl, ht, htd⟩ ?_
  rintro m _ w4 ⟨out4, c4, a4, rfl, h4, t4, hch, hm4, hsg, hds, hla, ht4, htd4⟩ I hI
  have hpre : c4.hist <+: c4.hist := List.prefix_refl _
  have st4 : step1 most bs a4 c4 = stepCode most bs a4 c4 := by rw [step1, if_neg (by omega), stepN, if_neg (by omega), if_neg (by omega), if_neg (by omega), if_neg (by omega)]
  refine ldP_of (x := some ⟨rg, 0, none⟩) (h4.blk.cells 0 _ rfl) ?_
  refine sRead_spec h4 ht4 fun w5 a5 z e h5 t5 hmm => ?_
  have t05 := t4.trans t5
  rw [← hsg] at hmm
  cases hrd : readT c4.sg bs a4 with
  | short =>
    rw [hrd] at hmm
    obtain ⟨rfl, rfl⟩ := hmm
    refine cond_t rfl (hK _ _ _ _ _ h5 t05 (.of_ch hch (RRes.short ?_ (by omega) hpre)))
    rw [st4, stepCode, hrd]
  | form =>
    rw [hrd] at hmm
    obtain ⟨rfl, rfl⟩ := hmm
    refine cond_t rfl (hK _ _ _ _ _ h5 t05 (.of_ch hch (RRes.err (n := 3) ?_ (by decide) rfl hpre)))
    rw [st4, stepCode, hrd]
  | sym y k =>
    rw [hrd] at hmm
    obtain ⟨rfl, rfl, rfl, _⟩ := hmm
    have hle5 := h5.rdr.le
    have hk1 := (readT_le hrd).1
    refine cond_f rfl ?_
    by_cases h256 : y = 256
    · refine cond_t (beq_iff_eq.2 (by omega)) ?_
      have hst : step1 most bs a4 c4 = .next c4.behind (a4 + k) := by
        rw [st4, stepCode, hrd]; dsimp only; rw [if_pos h256]
      have r := RRes.of_ch hch (RRes.done hst)
      have em : c4.behind.mode = if c.last then 5 else 0 := by unfold Cfg.behind; rw [hla]
      rw [em] at r
      exact hK _ _ _ _ _ h5 t05 r
    refine cond_f (beq_eq_false_iff_ne.2 (by omega)) ?_
    by_cases h285 : 285 < y
    · refine cond_t (decide_eq_true (by omega)) (hK _ _ _ _ _ h5 t05 (.of_ch hch (RRes.err (n := 3) ?_ (by decide) rfl hpre)))
      rw [st4, stepCode, hrd]; dsimp only; rw [if_neg h256, if_pos h285]
    refine cond_f (decide_eq_false (by omega)) ?_
    have ht5 := ht4.keep h4 t5
    have htd5 := htd4.keep h4 t5
    by_cases hlt : y < 256
    · refine cond_t (decide_eq_true (by omega)) ?_
      have h5d := h5.drew
      have t5d := RTo.drew w5 g rg out4
      refine ldSl_of (x := out4) (h5d.blk.cells 1 _ rfl) ?_
      refine ldI_of (x := (most : Int)) (h5d.blk.cells 2 _ rfl) ?_
      rw [h5d.out.rd.n]
      refine cond_of (fun hfull => ?_) (fun hroom => ?_)
      · have hfull := of_decide_eq_true hfull
        refine hK _ _ _ _ _ h5d (t05.trans t5d) (.of_ch hch (RRes.err (n := 5) ?_ (by decide) rfl hpre))
        rw [st4, stepCode, hrd]; dsimp only; rw [if_neg h256, if_neg h285, if_pos hlt, if_pos (by omega)]
      · have hroom := of_decide_eq_false hroom
        refine ldSl_of (x := out4) (h5d.blk.cells 1 _ rfl) ?_
        have hbv : (UInt8.ofNat y).toNat = y := by rw [UInt8.toNat_ofNat']; omega
        refine h5d.put (b := UInt8.ofNat y) (ebase (t05.trans t5d)) (by rw [hbv, wrap_nat .u8 (x := y) (by show _ < 2 ^ 8; omega)]) (by omega) fun out6 w6 h6 t6 => ?_
        have hst : step1 most bs a4 c4 = .next { c4 with hist := c4.hist ++ [UInt8.ofNat y] } (a4 + k) := by
          rw [st4, stepCode, hrd]; dsimp only; rw [if_neg h256, if_neg h285, if_pos hlt, if_neg (by omega)]
        exact hI (8 * bs.length - (a4 + k)) _ w6 ⟨out6, { c4 with hist := c4.hist ++ [UInt8.ofNat y] }, a4 + k, rfl, h6, (t05.trans t5d).trans t6, hch.trans (.one hst), hm4, hsg, hds, hla, (ht5.keep h5 t5d).keep h5d t6, (htd5.keep h5 t5d).keep h5d t6⟩ (by omega)
    · refine cond_f (decide_eq_false (by omega)) ?_
      have hcop := stepCode_copy (most := most) hrd (by omega) (by omega)
      rw [← st4] at hcop
      rw [← hds] at htd5
      refine copied_spec h5 htd5 (by omega) (by omega) (ebase t05) fun e out6 hist6 a6 w6 h6 t6 hmm => ?_
      have t06 := t05.trans t6
      rw [← hcop] at hmm
      cases hr : step1 most bs a4 c4 with
      | short =>
        rw [hr] at hmm
        obtain ⟨rfl, hp⟩ := hmm
        exact cond_t rfl (hK _ _ _ _ _ h6 t06 (.of_ch hch (RRes.short hr (by omega) hp)))
      | err n =>
        rw [hr] at hmm
        obtain ⟨rfl, hn, hp⟩ := hmm
        exact cond_t (by have : ((n : Nat) : Int) ≠ 0 := by omega
                         simpa using this) (hK _ _ _ _ _ h6 t06 (.of_ch hch (RRes.err hr hn rfl hp)))
      | next c6 a6' =>
        rw [hr] at hmm
        obtain ⟨rfl, rfl, rfl⟩ := hmm
        have hcc : c6 = { c4 with hist := c6.hist } := by
          rw [hcop] at hr
          unfold copyR at hr
          split at hr
          · cases hr
          · split at hr
            · cases hr
            · cases hr
            · split at hr
              · cases hr
              · split at hr
                · cases hr
                · split at hr
                  · cases hr
                  · split at hr
                    · cases hr
                    · injection hr with hr _; rw [← hr]
        have hle6 := h6.rdr.le
        have hmu := step1_next hr (h4.rdr.le)
        have ht6 := ht5.keep h5 t6
        have htd6 := htd5.keep h5 t6
        rw [hds] at htd6
        have hm6 : c6.mode = 4 := by rw [hcc]; exact hm4
        have hmu2 := hmu.2.2
        unfold mu at hmu2
        rw [if_neg (by omega), if_neg (by omega)] at hmu2
        refine cond_f rfl ?_
        exact hI (8 * bs.length - a6) _ w6 ⟨out6, c6, a6, rfl, h6, t06, hch.trans (.one hr), hm6, by rw [hcc]; exact hsg, by rw [hcc]; exact hds, by rw [hcc]; exact hla, ht6, htd6⟩ (by omega)
end
end Go.Proofs.Yteffnkpplhcomaa

namespace Go.Proofs.Yteffnkpplhcomaa
open Go.Vc Go.RowKit
set_option maxRecDepth 400000

section
variable {w w' : World} {base g rg : Nat} {s out : Slc} {bs hist ls : List UInt8} {most at_ B : Nat}
theorem RSt.lt (h : RSt w base g rg s out bs hist most at_) (hb : base ≤ w.heap.size) : ∀ k, rS g rg out k ∨ s.blk = some k → k < w.heap.size := by
  rintro k ((rfl | rfl | e) | e)
  · exact h.blk.lt
  · exact h.rdr.blk.lt
  · exact (h.out.lt k e).2
  · have := h.sb k e; omega
theorem RSt.keepB (h : RSt w base g rg s out bs hist most at_) (hl : ∀ k, rS g rg out k ∨ s.blk = some k → k < B) (hb : Below B w w') : RSt w' base g rg s out bs hist most at_ := by
  have hc := Chg.of_below hb
  refine ⟨h.blk.chg hc fun e => ?_, h.rdr.chg hc (fun e => ?_) fun k hk e => ?_, h.out.chg hc fun k hk e => ?_, h.hg, h.hr, h.sb, h.hm, h.mo⟩
  · have := hl g (.inl (.inl rfl)); omega
  · have := hl rg (.inl (.inr (.inl rfl))); omega
  · have := hl k (.inr hk); omega
  · have := hl k (.inl (.inr (.inr hk))); omega
theorem RTo.keepB {w0 : World} (h : RTo w0 w g rg out out) (hb : Below w0.heap.size w w') : RTo w0 w' g rg out out := ⟨h.chg.trans (Chg.of_below hb) fun i hi hs => by omega, .inl rfl⟩
theorem RTab.keepB {b t : Nat} {lo co : Slc} (h : RTab w b t lo co ls) (hl : t < B ∧ ∀ k, lo.blk = some k ∨ co.blk = some k → k < B) (hb : Below B w w') : RTab w' b t lo co ls := by
  have hc := Chg.of_below hb
  refine ⟨h.blk.chg hc fun e => ?_, h.hg, h.lo.chg hc fun k hk e => ?_, h.co.chg hc fun k hk e => ?_, h.sm, h.good⟩
  · have := hl.1; omega
  · have := hl.2 k (.inl hk); omega
  · have := hl.2 k (.inr hk); omega
theorem RTab.lt {b t : Nat} {lo co : Slc} (h : RTab w b t lo co ls) : t < w.heap.size ∧ ∀ k, lo.blk = some k ∨ co.blk = some k → k < w.heap.size :=
  ⟨h.blk.lt, fun k hk => by
    rcases hk with hk | hk
    · exact (h.lo.lt k hk).2
    · exact (h.co.lt k hk).2⟩

theorem lengths_spec {t : Nat × Slc × Slc} {n : Nat} {K : Slc → Int → World → Prop} (h : RSt w base g rg s out bs hist most at_) (ht : TabK w base out t ls) (hls : ls.length ≤ 19) (hn : n ≤ 399) (hbase : base ≤ w.heap.size)
    (hK : ∀ (r : Slc) (e : Int) (a' : Nat) w', RSt w' base g rg s out bs hist most a' → RTo w w' g rg out out → (match lensGo ls bs n 400 at_ [] with | .lens l a => e = 0 ∧ Own E_uint8 w' w.heap.size r l ∧ a' = a | .short => e = 2 | .form => e = 3) → K r e w') : c_phosphorref5_state_lengths (some ⟨g, 0, none⟩) (some ⟨t.1, 0, none⟩) (n : Int) w K := by
  refine call_phosphorref5_state_lengths _ _ _ ?_
  unfold sh_phosphorref5_state_lengths
  simp only [onPtr_some]
  have hlt := h.lt hbase
  have htlt := ht.1.lt
  obtain ⟨R, hR⟩ : ∃ R, R = lensGo ls bs n 400 at_ [] := ⟨_, rfl⟩
  rw [← hR] at hK
  refine loopP_rule_w (fun m (r : Slc × Unit) w1 => ∃ (l : List UInt8) (f a1 : Nat), m = n - l.length ∧ l.length ≤ n ∧ 400 ≤ f + l.length ∧ R = lensGo ls bs n f a1 l ∧ RSt w1 base g rg s out bs hist most a1 ∧ RTo w w1 g rg out out ∧ TabK w1 base out t ls ∧ Own E_uint8 w1 w.heap.size r.1 l) n
    ⟨[], 400, at_, by simp, by simp, by simp, hR, h, RTo.refl _ _ _ _, ht, Own.nil _ _ _⟩ ?_
  rintro m ⟨r, _⟩ w1 ⟨l, f, a1, rfl, hln, hf, hgo, h1, t1, ht1, ho1⟩ I hI
  dsimp only at *
  clear hR
  have hs1 := t1.chg.size
  rw [ho1.rd.n]
  obtain ⟨f', rfl⟩ : ∃ f', f = f' + 1 := ⟨f - 1, by omega⟩
  rw [lensGo] at hgo
  -- a row of the call's own stays where the state is read
  have row : ∀ {w2 w3}, RTo w2 w3 g rg out out → ∀ {r : Slc} {l : List UInt8}, Own E_uint8 w2 w.heap.size r l → Own E_uint8 w3 w.heap.size r l := fun {w2 w3} hto {r l} ho => Own.chg ho hto.chg fun k hk e => by
    have := (ho.lt k hk).1
    have := hlt k (.inl e)
    omega
  refine cond_of (fun hl => ?_) (fun hl => ?_)
  rotate_left
  · have hl := of_decide_eq_false hl
    rw [if_pos (by omega)] at hgo
    refine hK r 0 a1 w1 h1 t1 ?_
    rw [hgo]
    exact ⟨rfl, ho1, rfl⟩
  have hl := of_decide_eq_true hl
  rw [if_neg (by omega)] at hgo
  refine ldP_of (x := some ⟨rg, 0, none⟩) (h1.blk.cells 0 _ rfl) ?_
  refine sRead_spec h1 ht1 fun w2 a2 z e h2 t2 hm => ?_
  have t02 := t1.trans t2
  cases hrd : readT ls bs a1 with
  | short =>
    rw [hrd] at hm hgo
    obtain ⟨rfl, rfl⟩ := hm
    have hgo : R = .short := hgo
    refine cond_t rfl (hK _ _ _ _ h2 t02 ?_)
    rw [hgo]
    rfl
  | form =>
    rw [hrd] at hm hgo
    obtain ⟨rfl, rfl⟩ := hm
    have hgo : R = .form := hgo
    refine cond_t rfl (hK _ _ _ _ h2 t02 ?_)
    rw [hgo]
    rfl
  | sym y k =>
    rw [hrd] at hm hgo
    obtain ⟨rfl, rfl, rfl, hy⟩ := hm
    dsimp only at hgo
    refine cond_f rfl ?_
    have ho2 := row t2 ho1
    have ht2 := ht1.keep h1 t2
    have hs2 := t02.chg.size
    have hle2 := h2.rdr.le
    by_cases h16 : y < 16
    · -- a length
      refine cond_t (decide_eq_true (by omega)) ?_
      have hyv : (UInt8.ofNat y).toNat = y := by rw [UInt8.toNat_ofNat']; omega
      refine apB1 (c := UInt8.ofNat y) (by rw [hyv, wrap_nat .u8 (x := y) (by show _ < 2 ^ 8; omega)]) ho2 hs2 (by omega) fun r3 w3 ho3 hc3 _ => ?_
      have hB3 : Below w.heap.size w2 w3 := hc3.below hs2 fun i hi e => by have := (ho2.lt i e).1; omega
      have e3 : (if y = 18 then ((11 : Nat), (7 : Nat), (0 : UInt8)) else if y = 17 then (3, 3, 0) else if y = 16 then (3, 2, l.getLastD 0) else (1, 0, UInt8.ofNat y)) = (1, 0, UInt8.ofNat y) := by rw [if_neg (by omega), if_neg (by omega), if_neg (by omega)]
      rw [if_neg (show ¬ (y = 16 ∧ l = []) by omega)] at hgo
      simp only [e3] at hgo
      have hp0 : peekN bs (a1 + k) 0 = 0 := by have := peekN_lt bs (a1 + k) 0; omega
      rw [if_neg (by omega), hp0, if_neg (by omega)] at hgo
      exact hI (n - (l ++ [UInt8.ofNat y]).length) _ w3 ⟨l ++ [UInt8.ofNat y], f', a1 + k, rfl, by simp; omega, by simp; omega, hgo, h2.keepB hlt hB3, t02.keepB hB3, ⟨ht2.1.keepB htlt hB3, ht2.2⟩, ho3⟩ (by simp; omega)
    refine cond_f (decide_eq_false (by omega)) ?_
    refine joinP_of fun J hJ => ?_
    have go : ∀ (b m : Nat) (v : UInt8), 1 ≤ b → b ≤ 11 → m ≤ 7 → R = (if 8 * bs.length < a1 + k + m then .short else if n < l.length + b + peekN bs (a1 + k) m then .form else lensGo ls bs n f' (a1 + k + m) (l ++ List.replicate (b + peekN bs (a1 + k) m) v)) → J ((b : Int), (m : Int), (v.toNat : Int), ()) w2 := fun b m v hb1 hb2 hm7 hgo => hJ _ _ (by
      clear hJ
      dsimp only
      refine ldP_of (x := some ⟨rg, 0, none⟩) (h2.blk.cells 0 _ rfl) ?_
      refine sBits_spec (n := m) h2 (by omega) (fun hf1 w3 h3 t3 => ?_) (fun hs3 w3 h3 t3 => ?_)
      rotate_left
      · refine cond_t rfl (hK _ _ _ _ h3 (t02.trans t3) ?_)
        rw [hgo, if_pos hs3]
      rw [if_neg (by omega)] at hgo
      refine cond_f rfl ?_
      have p1 := peekN_lt bs (a1 + k) m
      have q1 : 2 ^ m ≤ 2 ^ 7 := Nat.pow_le_pow_right (by decide) hm7
      obtain ⟨q, hq⟩ : ∃ q, q = b + peekN bs (a1 + k) m := ⟨_, rfl⟩
      have eq1 : IntKind.i64.wrap ((b : Int) + IntKind.i64.wrap ((peekN bs (a1 + k) m : Nat) : Int)) = (q : Int) := by
        rw [wrap_nat .i64 (x := peekN bs (a1 + k) m) (by show _ < 2 ^ 63; omega), wrap64_id (by omega), hq]; rfl
      rw [eq1, wrap64_id (x := ((l.length : Nat) : Int) + (q : Int)) (by omega)]
      have t03 := t02.trans t3
      by_cases hbig : n < l.length + b + peekN bs (a1 + k) m
      · refine cond_t (decide_eq_true (by omega)) (hK _ _ _ _ h3 t03 ?_)
        rw [hgo, if_pos hbig]
      rw [if_neg hbig, ← hq] at hgo
      refine cond_f (decide_eq_false (by omega)) ?_
      have ho3 := row t3 ho2
      have ht3 := ht2.keep h2 t3
      have hs3 := t03.chg.size
      refine loopP_rule (fun (u : Slc × Int × Unit) w4 => ∃ i : Nat, u.2.1 = i ∧ i ≤ q ∧ Own E_uint8 w4 w.heap.size u.1 (l ++ List.replicate i v) ∧ Below w.heap.size w3 w4) (fun u => q - u.2.1.toNat) ⟨0, rfl, by omega, by simpa using ho3, Below.refl _ _⟩ ?_
      rintro ⟨u, i, _⟩ w4 ⟨i, rfl, hi, ho4, hB4⟩ I3 hI3
      dsimp only at *
      have hs4 := hB4.size
      refine cond_of (fun hlt4 => ?_) (fun hge4 => ?_)
      · have hlt4 := of_decide_eq_true hlt4
        refine apB1 (c := v) rfl ho4 (by omega) (by simp; omega) fun r5 w5 ho5 hc5 _ => ?_
        have hB5 : Below w.heap.size w4 w5 := hc5.below (by omega) fun j hj e => by have := (ho4.lt j e).1; omega
        rw [wrap64_id (by omega)]
        refine hI3 _ _ ⟨i + 1, rfl, by omega, ?_, hB4.trans hB5⟩ (by simp; omega)
        rw [List.replicate_succ', ← List.append_assoc]
        exact ho5
      · have hge4 := of_decide_eq_false hge4
        have : i = q := by omega
        subst this
        have el : (l ++ List.replicate i v).length = l.length + i := by simp
        exact hI (n - (l ++ List.replicate i v).length) _ w4 ⟨l ++ List.replicate i v, f', a1 + k + m, rfl, by omega, by omega, hgo, h3.keepB hlt hB4, t03.keepB hB4, ⟨ht3.1.keepB htlt hB4, ht3.2⟩, ho4⟩ (by omega))
    by_cases e16 : y = 16
    · subst e16
      refine cond_t rfl ?_
      by_cases hnil : l = []
      · refine cond_t (by rw [hnil]; rfl) (hK _ _ _ _ h2 t02 ?_)
        rw [if_pos ⟨rfl, hnil⟩] at hgo
        rw [hgo]
      · have hpos : 0 < l.length := List.length_pos_iff.2 hnil
        have e3 : (if 16 = 18 then ((11 : Nat), (7 : Nat), (0 : UInt8)) else if 16 = 17 then (3, 3, 0) else if 16 = 16 then (3, 2, l.getLastD 0) else (1, 0, UInt8.ofNat 16)) = (3, 2, l.getLastD 0) := rfl
        rw [if_neg (show ¬ (16 = 16 ∧ l = []) from fun hh => hnil hh.2)] at hgo
        simp only [e3] at hgo
        refine cond_f (beq_eq_false_iff_ne.2 (by omega)) ?_
        rw [wrap64_id (x := ((l.length : Nat) : Int) - 1) (by omega), show ((l.length : Nat) : Int) - 1 = ((l.length - 1 : Nat) : Int) by omega]
        obtain ⟨x, hx, hxs⟩ := get_of (xs := l) (k := l.length - 1) (by omega)
        refine ho2.rd.ix (i := ((l.length - 1 : Nat) : Int)) rfl (by omega) (by omega) fun hc => ?_
        rw [hxs] at hc
        refine ldB8 (b := x) hc ?_
        have hlast : l.getLastD 0 = x := by
          rw [List.getLastD_eq_getLast?, List.getLast?_eq_getElem?, hx]
          rfl
        rw [hlast] at hgo
        exact go 3 2 x (by decide) (by decide) (by decide) hgo
    · rw [if_neg (show ¬ (y = 16 ∧ l = []) from fun hh => e16 hh.1)] at hgo
      refine cond_f (beq_eq_false_iff_ne.2 (by omega)) ?_
      by_cases e17 : y = 17
      · subst e17
        have e3 : (if 17 = 18 then ((11 : Nat), (7 : Nat), (0 : UInt8)) else if 17 = 17 then (3, 3, 0) else if 17 = 16 then (3, 2, l.getLastD 0) else (1, 0, UInt8.ofNat 17)) = (3, 3, 0) := rfl
        simp only [e3] at hgo
        exact cond_t rfl (go 3 3 0 (by decide) (by decide) (by decide) hgo)
      · have e18 : y = 18 := by omega
        subst e18
        have e3 : (if 18 = 18 then ((11 : Nat), (7 : Nat), (0 : UInt8)) else if 18 = 17 then (3, 3, 0) else if 18 = 16 then (3, 2, l.getLastD 0) else (1, 0, UInt8.ofNat 18)) = (11, 7, 0) := rfl
        simp only [e3] at hgo
        exact cond_f rfl (cond_t rfl (go 11 7 0 (by decide) (by decide) (by decide) hgo))
end
end Go.Proofs.Yteffnkpplhcomaa

namespace Go.Proofs.Yteffnkpplhcomaa
open Go.Vc Go.RowKit
set_option maxRecDepth 400000

theorem lensGo_len (t bs : List UInt8) (n : Nat) {l' : List UInt8} {a' : Nat} : ∀ (f a : Nat) (l : List UInt8), lensGo t bs n f a l = .lens l' a' → n ≤ l'.length
  | 0, a, l, h => by cases h
  | f + 1, a, l, h => by
    rw [lensGo] at h
    split at h
    · next hn => cases h; exact hn
    · split at h
      · cases h
      · cases h
      · next y k hr =>
        split at h
        · cases h
        · generalize (if y = 18 then ((11 : Nat), (7 : Nat), (0 : UInt8)) else if y = 17 then (3, 3, 0) else if y = 16 then (3, 2, l.getLastD 0) else (1, 0, UInt8.ofNat y)) = T at h
          obtain ⟨b, m, v⟩ := T
          dsimp only at h
          split at h
          · cases h
          · split at h
            · cases h
            · exact lensGo_len t bs n f _ _ h

section
variable {w w' : World} {base g rg : Nat} {s out : Slc} {bs : List UInt8} {most at_ : Nat}
theorem rdynamic_spec {c : Cfg} {K : Int → World → Prop} (h : RSt w base g rg s out bs c.hist most at_) (hm : c.mode = 3) (hbase : base ≤ w.heap.size)
    (hK : ∀ (e : Int) out' hist' a' w', RSt w' base g rg s out' bs hist' most a' → RTo w w' g rg out out' → RRes most bs c at_ (if c.last then 5 else 0) e a' hist' → K e w') : c_phosphorref5_state_dynamic (some ⟨g, 0, none⟩) w K := by
  refine call_phosphorref5_state_dynamic _ ?_
  unfold sh_phosphorref5_state_dynamic
  simp only [onPtr_some]
  have hpre : c.hist <+: c.hist := List.prefix_refl _
  have st0 : step1 most bs at_ c = stepDyn bs at_ c := by rw [step1, if_neg (by omega), stepN, if_neg (by omega), if_neg (by omega), if_neg (by omega), if_pos hm]
  unfold stepDyn at st0
  have hlt := h.lt hbase
  have short : ∀ a' w', step1 most bs at_ c = .short → RSt w' base g rg s out bs c.hist most a' → RTo w w' g rg out out → K 2 w' := fun a' w' hs h' t' => hK _ _ _ _ _ h' t' (RRes.short hs (by omega) hpre)
  have bad : ∀ a' w', step1 most bs at_ c = .err 3 → RSt w' base g rg s out bs c.hist most a' → RTo w w' g rg out out → K 3 w' := fun a' w' hs h' t' => hK _ _ _ _ _ h' t' (RRes.err hs (by decide) rfl hpre)
  refine ldP_of (x := some ⟨rg, 0, none⟩) (h.blk.cells 0 _ rfl) ?_
  refine sBits_spec (n := 5) h (by decide) (fun hf1 w1 h1 t1 => ?_) (fun hs1 w1 h1 t1 => ?_)
  rotate_left
  · rw [if_pos (by omega)] at st0
    exact cond_t rfl (short _ _ st0 h1 t1)
  refine cond_f rfl ?_
  refine ldP_of (x := some ⟨rg, 0, none⟩) (h1.blk.cells 0 _ rfl) ?_
  refine sBits_spec (n := 5) h1 (by decide) (fun hf2 w2 h2 t2 => ?_) (fun hs2 w2 h2 t2 => ?_)
  rotate_left
  · rw [if_pos (by omega)] at st0
    exact cond_t rfl (short _ _ st0 h2 (t1.trans t2))
  refine cond_f rfl ?_
  refine ldP_of (x := some ⟨rg, 0, none⟩) (h2.blk.cells 0 _ rfl) ?_
  refine sBits_spec (n := 4) h2 (by decide) (fun hf3 w3 h3 t3 => ?_) (fun hs3 w3 h3 t3 => ?_)
  rotate_left
  · rw [if_pos (by omega)] at st0
    exact cond_t rfl (short _ _ st0 h3 ((t1.trans t2).trans t3))
  refine cond_f rfl ?_
  rw [if_neg (by omega)] at st0
  dsimp only at st0
  rw [show at_ + 5 + 5 = at_ + 10 by omega] at h3 hf3 ⊢
  rw [show at_ + 10 + 4 = at_ + 14 by omega] at h3 hf3
  have t03 := (t1.trans t2).trans t3
  have pa := peekN_lt bs at_ 5
  have pb := peekN_lt bs (at_ + 5) 5
  have pd := peekN_lt bs (at_ + 10) 4
  obtain ⟨a, ha⟩ : ∃ a, a = peekN bs at_ 5 := ⟨_, rfl⟩
  obtain ⟨b, hb⟩ : ∃ b, b = peekN bs (at_ + 5) 5 := ⟨_, rfl⟩
  obtain ⟨d, hd⟩ : ∃ d, d = peekN bs (at_ + 10) 4 := ⟨_, rfl⟩
  rw [← ha] at pa st0 ⊢
  rw [← hb] at pb st0 ⊢
  rw [← hd] at pd st0 ⊢
  refine joinP_of fun J hJ => ?_
  by_cases hab : 29 < a ∨ 29 < b
  · rw [if_pos hab] at st0
    by_cases h29 : 29 < a
    · exact cond_t (decide_eq_true (by omega)) (bad _ _ st0 h3 t03)
    · exact cond_f (decide_eq_false (by omega)) (cond_t (decide_eq_true (by omega)) (bad _ _ st0 h3 t03))
  rw [if_neg hab] at st0
  refine cond_f (decide_eq_false (by omega)) (cond_f (decide_eq_false (by omega)) (hJ _ _ ?_))
  clear hJ
  have hs03 := t03.chg.size
  refine nw_blk fun w5 hb5 hB5 hs5 => ?_
  obtain ⟨T, hT⟩ : ∃ T, T = w3.heap.size := ⟨_, rfl⟩
  rw [← hT] at hb5 ⊢
  refine mkSl_of sT_sl_uint8 (x0 := (0 : UInt8)) (n := 19) rfl rfl rfl (by rw [by_sl_uint8]; omega) (by simp only [maxLen]; omega) fun w6 ho6 hB6 => ?_
  obtain ⟨q, hq⟩ : ∃ q : Slc, q = ⟨some ⟨w5.heap.size, 0, none⟩, 19, 19⟩ := ⟨_, rfl⟩
  rw [← hq] at ho6 ⊢
  have hB36 : Below w.heap.size w3 w6 := (hB5.mono hs03).trans (hB6.mono (by omega))
  have h6 := h3.keepB hlt hB36
  have t06 := t03.keepB hB36
  have hb6 := hb5.ext hB6
  have ho6 : Own E_uint8 w6 w.heap.size q (List.replicate 19 0) := ho6.base (by omega)
  have hTb : w.heap.size ≤ T := by omega
  have d4 : IntKind.i64.wrap (IntKind.i64.wrap (d : Int) + 4) = ((d + 4 : Nat) : Int) := by
    rw [wrap_nat .i64 (x := d) (by show _ < 2 ^ 63; omega), wrap64_id (by omega)]; rfl
  rw [d4]
  -- what stays where the state is read
  have row : ∀ {w2 w3}, RTo w2 w3 g rg out out → ∀ {r : Slc} {l : List UInt8}, Own E_uint8 w2 w.heap.size r l → Own E_uint8 w3 w.heap.size r l := fun {w2 w3} hto {r l} ho => Own.chg ho hto.chg fun k hk e => by
    have := (ho.lt k hk).1
    have := hlt k (.inl e)
    omega
  obtain ⟨oc, hoc⟩ : ∃ oc : List Value, oc = [(.int .i64 16), (.int .i64 17), (.int .i64 18), (.int .i64 0), (.int .i64 8), (.int .i64 7), (.int .i64 9), (.int .i64 6), (.int .i64 10), (.int .i64 5), (.int .i64 11), (.int .i64 4), (.int .i64 12), (.int .i64 3), (.int .i64 13), (.int .i64 2), (.int .i64 14), (.int .i64 1), (.int .i64 15)] := ⟨_, rfl⟩
  have hocg : ∀ i, i < 19 → oc[i]? = some (.int .i64 ((orderL.getD i 0 : Nat) : Int)) := by
    intro i hi
    have e : oc = orderL.map (fun n : Nat => Value.int .i64 (n : Int)) := by rw [hoc]; rfl
    have hl : orderL[i]? = some (orderL.getD i 0) := by
      rw [List.getD_eq_getElem?_getD, List.getElem?_eq_getElem (show i < orderL.length from hi)]
      rfl
    rw [e, List.getElem?_map, hl]
    rfl
  rw [← hoc] at hb6
  refine loopP_rule (fun (u : Int × Unit) w7 => ∃ i : Nat, u.1 = i ∧ i ≤ d + 4 ∧ RSt w7 base g rg s out bs c.hist most (at_ + 14 + 3 * i) ∧ RTo w w7 g rg out out ∧ Blk w7 T ty_int oc ∧ Own E_uint8 w7 w.heap.size q (clens bs (at_ + 14) i)) (fun u => d + 4 - u.1.toNat)
    ⟨0, rfl, by omega, h6, t06, hb6, ho6⟩ ?_
  rintro ⟨i, _⟩ w7 ⟨i, rfl, hi, h7, t7, hb7, ho7⟩ I hI
  dsimp only at *
  have hs7 := t7.chg.size
  have hclen : ∀ i, (clens bs (at_ + 14) i).length = 19 := fun i => by
    induction i with
    | zero => simp [clens]
    | succ i ih => rw [clens, List.length_set]; exact ih
  refine cond_of (fun hl => ?_) (fun hl => ?_)
  · have hl := of_decide_eq_true hl
    refine ldP_of (x := some ⟨rg, 0, none⟩) (h7.blk.cells 0 _ rfl) ?_
    refine sBits_spec (n := 3) h7 (by decide) (fun hf8 w8 h8 t8 => ?_) (fun hs8 w8 h8 t8 => ?_)
    rotate_left
    · rw [if_pos (by omega)] at st0
      exact cond_t rfl (short _ _ st0 h8 (t7.trans t8))
    refine cond_f rfl ⟨by omega, ?_⟩
    have hb8 : Blk w8 T ty_int oc := hb7.chg t8.chg fun e => by have := hlt T (.inl e); omega
    have ho8 := row t8 ho7
    have hs8 := (t7.trans t8).chg.size
    have hcell := hb8.cells i _ (hocg i (by omega))
    refine ldI_of (x := ((orderL.getD i 0 : Nat) : Int)) (by simpa using hcell) ?_
    have hord := orderL_lt i (by omega)
    have p3 := peekN_lt bs (at_ + 14 + 3 * i) 3
    obtain ⟨x, hx, hxs⟩ := get_of (xs := clens bs (at_ + 14) i) (k := orderL.getD i 0) (by rw [hclen]; exact hord)
    have hpv : (UInt8.ofNat (peekN bs (at_ + 14 + 3 * i) 3)).toNat = peekN bs (at_ + 14 + 3 * i) 3 := by rw [UInt8.toNat_ofNat']; omega
    refine ho8.rd.ix (i := ((orderL.getD i 0 : Nat) : Int)) rfl (by omega) (by rw [hclen]; omega) fun _ => ?_
    refine ho8.st0 (x := x) (y := UInt8.ofNat (peekN bs (at_ + 14 + 3 * i) 3)) hx (by show [Value.int .u8 _] = _; rw [hpv, wrap_nat .u8 (x := peekN bs (at_ + 14 + 3 * i) 3) (by show _ < 2 ^ 8; omega)]) fun w9 ho9 hg9 hs9 => ?_
    have hc9 : Chg (fun j => q.blk = some j) w8 w9 := Chg.of_grown hg9 fun j hj => hj
    have hB9 : Below w.heap.size w8 w9 := hc9.below hs8 fun j hj e => by have := (ho8.lt j e).1; omega
    rw [wrap64_id (by omega)]
    refine hI _ _ ⟨i + 1, rfl, by omega, ?_, (t7.trans t8).keepB hB9, hb8.chg hc9 fun e => own_ne_blk ho8 hb8 (by decide) T e rfl, ho9⟩ (by simp; omega)
    have := h8.keepB hlt hB9
    rwa [show at_ + 14 + 3 * i + 3 = at_ + 14 + 3 * (i + 1) by omega] at this
  have hl := of_decide_eq_false hl
  have hid : i = d + 4 := by omega
  subst hid
  have hle7 := h7.rdr.le
  rw [if_neg (by omega)] at st0
  obtain ⟨cl, hcl⟩ : ∃ cl, cl = clens bs (at_ + 14) (d + 4) := ⟨_, rfl⟩
  rw [← hcl] at st0 ho7
  have hcl19 : cl.length = 19 := by rw [hcl, hclen]
  refine rNew_spec ho7.rd (fun hbad e he => ?_) (fun hok tg lo co w8 tab8 hB8 => ?_)
  · rw [if_pos hbad] at st0
    exact cond_t (by simpa using he) (bad _ _ st0 h7 t7)
  rw [if_neg hok] at st0
  refine cond_f rfl ?_
  have hB78 : Below w.heap.size w7 w8 := hB8.mono hs7
  have h8 := h7.keepB hlt hB78
  have t8 := t7.keepB hB78
  have hs8 := t8.chg.size
  have tabK : ∀ {w2 w3 : World} {tg lo co ls}, w.heap.size ≤ w2.heap.size → RTab w3 w2.heap.size tg lo co ls → TabK w3 base out (tg, lo, co) ls := fun {w2 w3 tg lo co ls} hle tab => ⟨tab.base (by omega), fun k hk e => by
    have := (tab.lo.lt k hk).1
    have := hlt k (.inl (.inr (.inr e)))
    omega⟩
  have en : IntKind.i64.wrap ((IntKind.i64.wrap ((IntKind.i64.wrap ((IntKind.i64.wrap (a : Int)) + (257 : Int))) + (IntKind.i64.wrap (b : Int)))) + (1 : Int)) = ((a + 257 + b + 1 : Nat) : Int) := by
    rw [wrap_nat .i64 (x := a) (by show _ < 2 ^ 63; omega), wrap_nat .i64 (x := b) (by show _ < 2 ^ 63; omega), wrap64_id (x := (a : Int) + 257) (by omega), wrap64_id (x := (a : Int) + 257 + (b : Int)) (by omega), wrap64_id (by omega)]
    omega
  have en2 : IntKind.i64.wrap ((IntKind.i64.wrap (a : Int)) + (257 : Int)) = ((a + 257 : Nat) : Int) := by
    rw [wrap_nat .i64 (x := a) (by show _ < 2 ^ 63; omega), wrap64_id (by omega)]; rfl
  rw [en, en2]
  refine lengths_spec (t := (tg, lo, co)) (n := a + 257 + b + 1) h8 (tabK hs7 tab8) (by omega) (by omega) (by omega) fun r e a9 w9 h9 t9 hmm => ?_
  have t09 := t8.trans t9
  rw [show at_ + 14 + 3 * (d + 4) = at_ + 14 + 3 * (d + 4) from rfl] at hmm
  cases hgo : lensGo cl bs (a + 257 + b + 1) 400 (at_ + 14 + 3 * (d + 4)) [] with
  | short =>
    rw [hgo] at hmm st0
    have hmm : e = 2 := hmm
    subst hmm
    exact cond_t rfl (short _ _ st0 h9 t09)
  | form =>
    rw [hgo] at hmm st0
    have hmm : e = 3 := hmm
    subst hmm
    exact cond_t rfl (bad _ _ st0 h9 t09)
  | lens l a9' =>
    rw [hgo] at hmm st0
    obtain ⟨rfl, hol, rfl⟩ := hmm
    dsimp only at st0
    have hll := lensGo_len cl bs _ _ _ _ hgo
    refine cond_f rfl ?_
    have hs9 := t09.chg.size
    have hln := hol.rd.n
    refine hol.rd.slK (l := 0) (m := a + 257) rfl (.inl ⟨rfl, rfl⟩) (.inr rfl) (by omega) (by omega) fun hp1 => ?_
    rw [List.drop_zero] at hp1
    refine rNew_spec hp1 (fun hbad e he => ?_) (fun hok1 tg1 lo1 co1 w10 tab10 hB10 => ?_)
    · rw [if_pos (.inl hbad)] at st0
      exact cond_t (by simpa using he) (bad _ _ st0 h9 t09)
    refine cond_f rfl ?_
    have hB9' : Below w.heap.size w9 w10 := hB10.mono hs9
    have h10 := h9.keepB hlt hB9'
    have t10 := t09.keepB hB9'
    have hs10 := t10.chg.size
    have hol10 := hol.ext hB10
    refine hol10.rd.slK (l := a + 257) (m := l.length) rfl (.inr rfl) (.inl ⟨rfl, rfl⟩) (by omega) (Nat.le_refl _) fun hp2 => ?_
    rw [List.take_length] at hp2
    refine rNew_spec hp2 (fun hbad e he => ?_) (fun hok2 tg2 lo2 co2 w11 tab11 hB11 => ?_)
    · rw [if_pos (.inr (.inl hbad))] at st0
      refine joinP_of fun J3 _ => ?_
      exact cond_t (by simpa using he) (bad _ _ st0 h10 t10)
    have hB10' : Below w.heap.size w10 w11 := hB11.mono hs10
    have h11 := h10.keepB hlt hB10'
    have t11 := t10.keepB hB10'
    have hs11 := t11.chg.size
    have hol11 := hol10.ext hB11
    refine joinP_of fun J3 hJ3 => cond_f rfl ?_
    obtain ⟨x, hx, hxs⟩ := get_of (xs := l) (k := 256) (by omega)
    have hgd : l.getD 256 0 = x := by rw [List.getD_eq_getElem?_getD, hx]; rfl
    refine hol11.rd.ix (i := 256) rfl (by omega) (by omega) fun hc => ?_
    have hxs' : ∀ h, l[((256 : Int)).toNat]'h = x := hxs
    rw [hxs'] at hc
    refine ldB8 (b := x) hc ?_
    by_cases hx0 : x = 0
    · rw [if_pos (.inr (.inr (by rw [hgd, hx0])))] at st0
      exact cond_t (by rw [hx0]; rfl) (bad _ _ st0 h11 t11)
    rw [if_neg (fun hh => by
      rcases hh with hh | hh | hh
      · exact hok1 hh
      · exact hok2 hh
      · rw [hgd] at hh; exact hx0 hh)] at st0
    refine cond_f (beq_eq_false_iff_ne.2 fun e => hx0 (UInt8.toNat.inj (by rw [show (0 : UInt8).toNat = 0 from rfl]; omega))) (hJ3 _ _ ?_)
    have k1 := tabK hs9 (tab10.ext hB11)
    have k2 := tabK hs10 tab11
    refine codes_spec (c := { c with mode := 4, sg := l.take (a + 257), ds := l.drop (a + 257) }) (t := (tg1, lo1, co1)) (td := (tg2, lo2, co2)) h11 k1 k2 rfl (by omega) fun e out' hist' a' w' h' t' r => ?_
    exact hK e out' hist' a' w' h' (t11.trans t') (.of_ch (.one st0) r)
end
end Go.Proofs.Yteffnkpplhcomaa

namespace Go.Proofs.Yteffnkpplhcomaa
open Go.Vc Go.RowKit
set_option maxRecDepth 400000

theorem RRes.le {most : Nat} {bs : List UInt8} {c : Cfg} {a m' : Nat} {e : Int} {a' : Nat} {hist' : List UInt8} (h : RRes most bs c a m' e a' hist') (ha : a ≤ 8 * bs.length) (he : e = 0) : a ≤ a' := by
  rcases h with ⟨_, c', h1, _, _⟩ | ⟨c', a'', n, h1, h2, h3, _⟩
  · exact (h1.le ha).2.1
  · exfalso
    rcases h2 with ⟨_, _, rfl⟩ | ⟨_, hn⟩
    · omega
    · omega

section
variable {w w' : World} {base g rg : Nat} {s out : Slc} {bs : List UInt8} {most at_ : Nat}
theorem five_good : goodTab fiveL ∧ ¬ badTab fiveL := by
  have a : ∀ x ∈ fiveL, x.toNat ≤ 15 := by decide +kernel
  have b : roomN fiveL = 32768 := by decide +kernel
  refine ⟨⟨a, .inl b⟩, fun h => ?_⟩
  rcases h with (h | ⟨x, hx, hx15⟩) | h
  · exact absurd h (by decide +kernel)
  · have := a x hx; omega
  · exact h (.inl b)

theorem rblock_spec {c : Cfg} {K : Bool → Int → World → Prop} (h : RSt w base g rg s out bs c.hist most at_) (hm : c.mode = 0) (hbase : base ≤ w.heap.size)
    (hK : ∀ (last : Bool) (e : Int) out' hist' a' w', RSt w' base g rg s out' bs hist' most a' → RTo w w' g rg out out' → RRes most bs c at_ (if last then 5 else 0) e a' hist' → (e = 0 → at_ + 3 ≤ a') → K last e w') : c_phosphorref5_state_block (some ⟨g, 0, none⟩) w K := by
  refine call_phosphorref5_state_block _ ?_
  unfold sh_phosphorref5_state_block
  simp only [onPtr_some]
  have hpre : c.hist <+: c.hist := List.prefix_refl _
  have st0 : step1 most bs at_ c = stepHead bs at_ c := by rw [step1, if_neg (by omega), stepN, if_pos hm]
  unfold stepHead at st0
  have hlt := h.lt hbase
  refine ldP_of (x := some ⟨rg, 0, none⟩) (h.blk.cells 0 _ rfl) ?_
  refine sBits_spec (n := 1) h (by decide) (fun hf1 w1 h1 t1 => ?_) (fun hs1 w1 h1 t1 => ?_)
  rotate_left
  · rw [if_pos (by omega)] at st0
    exact cond_t rfl (hK false 2 _ _ _ _ h1 t1 (RRes.short st0 (by omega) hpre) fun e => by omega)
  refine cond_f rfl ?_
  refine ldP_of (x := some ⟨rg, 0, none⟩) (h1.blk.cells 0 _ rfl) ?_
  refine sBits_spec (n := 2) h1 (by decide) (fun hf2 w2 h2 t2 => ?_) (fun hs2 w2 h2 t2 => ?_)
  rotate_left
  · rw [if_pos (by omega)] at st0
    exact cond_t rfl (hK false 2 _ _ _ _ h2 (t1.trans t2) (RRes.short st0 (by omega) hpre) fun e => by omega)
  refine cond_f rfl ?_
  have t02 := t1.trans t2
  rw [if_neg (by omega)] at st0
  dsimp only at st0
  have ev1 : peekN bs at_ 3 % 2 = peekN bs at_ 1 := peekN_mod bs at_ 1 3 (by decide)
  have ev2 : peekN bs at_ 3 / 2 = peekN bs (at_ + 1) 2 := by
    have := peekN_div bs at_ 1 3 (by decide)
    rwa [Nat.pow_one] at this
  rw [ev1, ev2] at st0
  have p1 := peekN_lt bs at_ 1
  have p2 := peekN_lt bs (at_ + 1) 2
  obtain ⟨v, hv⟩ : ∃ v, v = peekN bs at_ 1 := ⟨_, rfl⟩
  obtain ⟨k, hk⟩ : ∃ k, k = peekN bs (at_ + 1) 2 := ⟨_, rfl⟩
  rw [← hv] at p1 st0 ⊢
  rw [← hk] at p2 st0 ⊢
  rw [show at_ + 1 + 2 = at_ + 3 by omega] at h2 hf2
  have el : ((v : Int) == (1 : Int)) = (v == 1) := by
    cases hh : (v == 1) with
    | true => rw [eq_of_beq hh]; rfl
    | false => exact beq_eq_false_iff_ne.2 (by have := beq_eq_false_iff_ne.1 hh; omega)
  rw [el]
  have hs02 := t02.chg.size
  -- behind the head
  have go : ∀ (c1 : Cfg), step1 most bs at_ c = .next c1 (at_ + 3) → c1.last = (v == 1) → ∀ {w3 : World}, RTo w w3 g rg out out → ∀ (e : Int) out' hist' a' w', RSt w' base g rg s out' bs hist' most a' → RTo w3 w' g rg out out' → RRes most bs c1 (at_ + 3) (if c1.last then 5 else 0) e a' hist' → K (v == 1) e w' := fun c1 hst hla {w3} t3 e out' hist' a' w' h' t' r => by
    rw [hla] at r
    exact hK (v == 1) e out' hist' a' w' h' (t3.trans t') (.of_ch (.one hst) r) fun e0 => r.le hf2 e0
  by_cases k0 : k = 0
  · refine cond_t (by rw [k0]; rfl) ?_
    rw [if_pos k0] at st0
    exact rstored_spec (c := { c with last := v == 1, mode := 1 }) h2 rfl (by omega) fun e out' hist' a' w' h' t' r => go _ st0 rfl t02 e out' hist' a' w' h' t' r
  rw [if_neg k0] at st0
  refine cond_f (beq_eq_false_iff_ne.2 (by omega)) ?_
  by_cases k1 : k = 1
  · refine cond_t (by rw [k1]; rfl) ?_
    rw [if_pos k1] at st0
    refine rHFixed_spec fun q6 q7 w3 ho3 _ hB3 => ?_
    refine rNew_spec ho3.rd (fun hh => absurd hh fixed_good.2) fun _ tg lo co w4 tab4 hB4 => ?_
    have hs3 := hB3.size
    have hB24 : Below w2.heap.size w2 w4 := hB3.trans (hB4.mono hs3)
    have hs4 := hB24.size
    refine mkSl_of sT_sl_uint8 (x0 := (0 : UInt8)) (n := 32) rfl rfl rfl (by rw [by_sl_uint8]; omega) (by simp only [maxLen]; omega) fun w5 ho5 hB5 => ?_
    obtain ⟨u, hu⟩ : ∃ u : Slc, u = ⟨some ⟨w4.heap.size, 0, none⟩, 32, 32⟩ := ⟨_, rfl⟩
    rw [← hu] at ho5 ⊢
    have hfl : (List.replicate 32 (5 : UInt8)).length = (List.replicate 32 (0 : UInt8)).length := by decide
    have hrl : (List.replicate 32 (0 : UInt8)).length = 32 := by decide
    refine loopP_rule (fun (t : Int × Unit) w6 => ∃ i : Nat, t.1 = i ∧ i ≤ 32 ∧ Own E_uint8 w6 w4.heap.size u (mix (List.replicate 32 5) (List.replicate 32 0) i) ∧ Below w4.heap.size w4 w6) (fun t => 32 - t.1.toNat) ⟨0, rfl, by omega, by rw [mix_zero]; exact ho5, hB5⟩ ?_
    rintro ⟨i, _⟩ w6 ⟨i, rfl, hi, ho6, hB6⟩ I hI
    dsimp only at *
    refine cond_of (fun hlt6 => ?_) (fun hge => ?_)
    · have hlt6 := of_decide_eq_true hlt6
      have hi2 : i < 32 := by omega
      rw [wrap64_id (by omega)]
      refine ho6.rd.ix (i := (i : Int)) rfl (by omega) (by rw [mix_length hfl, hrl]; omega) fun _ => ?_
      refine ho6.st0 (x := 0) (y := 5) (by rw [show ((i : Int)).toNat = i from rfl, mix_get hfl (by rw [hrl]; exact hi2), if_neg (by omega), List.getElem?_replicate, if_pos hi2]) rfl fun w7 ho7 hg7 hs7 => ?_
      rw [show ((i : Int)).toNat = i from rfl, mix_set hfl (by rw [hrl]; exact hi2) (by rw [List.getElem?_replicate, if_pos hi2])] at ho7
      have hc7 : Chg (fun j => u.blk = some j) w6 w7 := Chg.of_grown hg7 fun j hj => hj
      exact hI _ _ ⟨i + 1, rfl, by omega, ho7, hB6.trans (hc7.below hB6.size fun j hj e => by have := (ho6.lt j e).1; omega)⟩ (by simp; omega)
    · have hge := of_decide_eq_false hge
      have : i = 32 := by omega
      subst this
      have hm6 := mix_all hfl
      rw [hrl] at hm6
      rw [hm6] at ho6
      have hs6 := hB6.size
      have ho6' : Rd E_uint8 w6 u fiveL := ho6.rd
      refine rNew_spec ho6' (fun hh => absurd hh five_good.2) fun _ tg2 lo2 co2 w8 tab8 hB8 => ?_
      have hB48 : Below w4.heap.size w4 w8 := hB6.trans (hB8.mono hs6)
      have hB28 : Below w.heap.size w2 w8 := (hB24.trans (hB48.mono hs4)).mono hs02
      have h8 := h2.keepB hlt hB28
      have t8 := t02.keepB hB28
      have hs8 := hB28.size
      have tabK : ∀ {b : Nat} {tg lo co ls}, w.heap.size ≤ b → RTab w8 b tg lo co ls → TabK w8 base out (tg, lo, co) ls := fun {b tg lo co ls} hle tab => ⟨tab.base (by omega), fun k hk e => by
        have := (tab.lo.lt k hk).1
        have := hlt k (.inl (.inr (.inr e)))
        omega⟩
      have k1 := tabK (by omega) (tab4.ext hB48)
      have k2 := tabK (by omega) tab8
      exact codes_spec (c := { c with last := v == 1, mode := 4, sg := fixedL, ds := fiveL }) (t := (tg, lo, co)) (td := (tg2, lo2, co2)) h8 k1 k2 rfl (by omega) fun e out' hist' a' w' h' t' r => go _ st0 rfl t8 e out' hist' a' w' h' t' r
  rw [if_neg k1] at st0
  refine cond_f (beq_eq_false_iff_ne.2 (by omega)) ?_
  by_cases k2 : k = 2
  · refine cond_t (by rw [k2]; rfl) ?_
    rw [if_pos k2] at st0
    exact rdynamic_spec (c := { c with last := v == 1, mode := 3 }) h2 rfl (by omega) fun e out' hist' a' w' h' t' r => go _ st0 rfl t02 e out' hist' a' w' h' t' r
  · rw [if_neg k2] at st0
    exact cond_f (beq_eq_false_iff_ne.2 (by omega)) (hK false 3 _ _ _ _ h2 t02 (RRes.err st0 (by decide) rfl hpre) fun e => by omega)
end

/-- What Front comes to. -/
def RFront (most : Nat) (bs : List UInt8) (e u : Int) (hist' : List UInt8) : Prop :=
  (e = 0 ∧ ∃ c' a', Ch most bs cfg0 0 c' a' ∧ c'.mode = 5 ∧ c'.hist = hist' ∧ u = (((a' + 7) / 8 : Nat) : Int)) ∨
  (u = 0 ∧ ∃ c' a'' n, Ch most bs cfg0 0 c' a'' ∧ (step1 most bs a'' c' = .short ∧ c'.mode ≠ 5 ∧ n = 2 ∨ step1 most bs a'' c' = .err n ∧ n ≠ 0) ∧ e = ((n : Nat) : Int) ∧ c'.hist <+: hist')
theorem rFront_spec {w : World} {b : Slc} {bs : List UInt8} {most : Nat} {K : Slc → Int → Int → World → Prop} (hb : Rd E_uint8 w b bs) (hbl : ∀ k, b.blk = some k → k < w.heap.size) (hl : bs.length ≤ 1000000000) (hm : most ≤ 1073741824)
    (hK : ∀ o u e hist' w', RFront most bs e u hist' → hist'.length ≤ most → Own E_uint8 w' w.heap.size o hist' → Below w.heap.size w w' → K o u e w') : c_phosphorref5_Front b (most : Int) w K := by
  refine call_phosphorref5_Front _ _ ?_
  unfold sh_phosphorref5_Front
  refine nw_blk fun w1 hb1 hB1 hs1 => ?_
  obtain ⟨rg, hrg⟩ : ∃ rg, rg = w.heap.size := ⟨_, rfl⟩
  refine nw_blk fun w2 hb2 hB2 hs2 => ?_
  obtain ⟨g, hg⟩ : ∃ g, g = w1.heap.size := ⟨_, rfl⟩
  rw [← hrg] at hb1 hb2
  rw [← hg] at hb2 ⊢
  have hB02 : Below w.heap.size w w2 := hB1.trans (hB2.mono (by omega))
  have h2 : RSt w2 w.heap.size g rg b nilS bs (cfg0).hist most 0 := ⟨hb2, ⟨hb1.ext hB2, hb.ext hB02, fun k hk => by have := hbl k hk; omega, Nat.zero_le _, hl⟩, Own.nil _ _ _, by omega, by omega, fun k hk => hbl k hk, Nat.zero_le _, hm⟩
  have hs02 := hB02.size
  refine loopP_rule_w (fun m (_ : Unit) w3 => ∃ (out3 : Slc) (c3 : Cfg) (a3 : Nat), m = 8 * bs.length - a3 ∧ RSt w3 w.heap.size g rg b out3 bs c3.hist most a3 ∧ Below w.heap.size w w3 ∧ Ch most bs cfg0 0 c3 a3 ∧ c3.mode = 0) _ ⟨nilS, cfg0, 0, rfl, h2, hB02, .refl _ _, rfl⟩ ?_
  rintro m _ w3 ⟨out3, c3, a3, rfl, h3, hB3, hch, hm3⟩ I hI
  have hs3 := hB3.size
  refine rblock_spec h3 hm3 hs3 fun last e out4 hist4 a4 w4 h4 t4 r hle => ?_
  have hB4 := hB3.trans (t4.below h3 hs3)
  have hs4 := hB4.size
  rcases r with ⟨rfl, c', hc', hmode, rfl⟩ | ⟨c', a'', n, hc', hst, rfl, hp⟩
  · refine cond_f rfl ?_
    have hle3 := hle rfl
    have hle4 := h4.rdr.le
    cases last with
    | true =>
      refine cond_t rfl ?_
      have h4d := h4.drew
      refine ldSl_of (x := out4) (h4d.blk.cells 1 _ rfl) ?_
      refine ldP_of (x := some ⟨rg, 0, none⟩) (h4d.blk.cells 0 _ rfl) ?_
      rw [onPtr_some]
      refine ldI_of (x := (a4 : Int)) (h4d.rdr.blk.cells 1 _ rfl) ⟨by decide, ?_⟩
      have eu : IntKind.i64.wrap ((IntKind.i64.wrap ((a4 : Int) + (7 : Int))).tdiv (8 : Int)) = (((a4 + 7) / 8 : Nat) : Int) := by
        rw [wrap64_id (x := (a4 : Int) + 7) (by omega), show (a4 : Int) + 7 = ((a4 + 7 : Nat) : Int) from rfl, show (8 : Int) = ((8 : Nat) : Int) from rfl, ← Int.ofNat_tdiv, wrap64_id (by omega)]
      rw [eu]
      have hBd : Below w.heap.size w4 w4.drew := ((Below.refl _ w4).drew).mono hs4
      exact hK out4 _ 0 c'.hist _ (.inl ⟨rfl, c', a4, hch.trans hc', hmode, rfl, rfl⟩) h4.hm h4d.out (hB4.trans hBd)
    | false =>
      refine cond_f rfl ?_
      exact hI (8 * bs.length - a4) _ w4 ⟨out4, c', a4, rfl, h4, hB4, hch.trans hc', hmode⟩ (by omega)
  · have hn0 : n ≠ 0 := by
      rcases hst with ⟨_, _, rfl⟩ | ⟨_, hn⟩
      · decide
      · exact hn
    refine cond_t (by have : ((n : Nat) : Int) ≠ 0 := by omega
                      simpa using this) ?_
    refine ldSl_of (x := out4) (h4.blk.cells 1 _ rfl) ?_
    exact hK out4 0 _ hist4 w4 (.inr ⟨rfl, c', a'', n, hch.trans hc', hst, rfl, hp⟩) h4.hm h4.out hB4
end Go.Proofs.Yteffnkpplhcomaa

namespace Go.Proofs.Yteffnkpplhcomaa
open Go.Vc Go.RowKit
set_option maxRecDepth 400000

theorem run_stops (most : Nat) (B : List UInt8) : ∀ (n : Nat) (c : Cfg) (a : Nat), mu B c a ≤ n → a ≤ 8 * B.length → ∃ c1 a1 r, Ch most B c a c1 a1 ∧ step1 most B a1 c1 = r ∧ ∀ c a, r ≠ .next c a
  | n, c, a, hn, ha => by
    cases h : step1 most B a c with
    | short => exact ⟨c, a, _, .refl _ _, h, by intro _ _ e; cases e⟩
    | err m => exact ⟨c, a, _, .refl _ _, h, by intro _ _ e; cases e⟩
    | next c2 a2 =>
      obtain ⟨h1, h2, h3⟩ := step1_next h ha
      cases n with
      | zero => omega
      | succ n =>
        obtain ⟨c1, a1, r, hc, hs, hr⟩ := run_stops most B n c2 a2 (by omega) h1
        exact ⟨c1, a1, r, .step h hc, hs, hr⟩

theorem run_nil {most : Nat} {c1 : Cfg} {a1 : Nat} {r0 : SR} (hch : Ch most [] cfg0 0 c1 a1) (hst : step1 most [] a1 c1 = r0) (hr0 : ∀ c a, r0 ≠ .next c a) : c1 = cfg0 ∧ a1 = 0 ∧ r0 = .short := by
  have h0 : step1 most ([] : List UInt8) 0 cfg0 = .short := rfl
  obtain ⟨rfl, rfl⟩ := (Ch.refl (most := most) (bs := []) cfg0 0).same hch (by rw [h0]; intro _ _ e; cases e) (by rw [hst]; exact hr0)
  exact ⟨rfl, rfl, by rw [← hst]; rfl⟩
theorem ne_nat {a b : Nat} : (((a : Nat) : Int) != ((b : Nat) : Int)) = (a != b) := by
  cases h : (a != b) with
  | true => exact bne_iff_ne.2 (by have := bne_iff_ne.1 h; omega)
  | false =>
    have : a = b := by simpa using h
    rw [this]; simp

section
variable {w : World}
/-- Behind the head. -/
theorem rzFront_rest {b : Slc} {x y : UInt8} {ys : List UInt8} {most : Nat} {c1 : Cfg} {a1 : Nat} {r0 : SR} {K : Slc → Int → Int → World → Prop} (hm : most ≤ 1073741824) (hb : Rd E_uint8 w b (x :: y :: ys)) (hbl : ∀ k, b.blk = some k → k < w.heap.size) (hl : ys.length ≤ 999999990)
    (hch : Ch most ys cfg0 0 c1 a1) (hst : step1 most ys a1 c1 = r0) (hr0 : ∀ c a, r0 ≠ .next c a) (hhd : headOK (x :: y :: ys) = true)
    (hK1 : zerr (x :: y :: ys) c1 a1 r0 = 0 → ∀ o w', Own E_uint8 w' w.heap.size o c1.hist → Below w.heap.size w w' → K o ((6 + (a1 + 7) / 8 : Nat) : Int) 0 w')
    (hK2 : ∀ n, zerr (x :: y :: ys) c1 a1 r0 = n → n ≠ 0 → ∀ o w', Below w.heap.size w w' → K o 0 n w') :
      slK b (some 2) none 1 fun t51 =>
            c_phosphorref5_Front t51 most w fun t53 t53_1 t53_2 w3 =>
            cond (t53_2 != (0 : Int))
              (K t53 0 t53_2 w3)
              (cond (decide (((b.n : Nat) : Int) < (IntKind.i64.wrap ((6 : Int) + t53_1))))
                 (K t53 0 2 w3)
                 (c_phosphorref2_Adler t53 w3 fun t68 w4 =>
                  slK b (some (IntKind.i64.wrap ((2 : Int) + t53_1))) none 1 fun t72 =>
                  joinP (σ := Unit) (fun s_2 w5 =>
                    K t53 (IntKind.i64.wrap ((6 : Int) + t53_1)) 0 w5) fun J3 =>
                  joinP (σ := Bool × Unit) (fun s_3 w6 =>
                    cond s_3.1
                      (K t53 0 4 w6)
                      (J3 (()) w6)) fun J4 =>
                  0 ≤ (24 : Int) ∧
                  ixK t72 0 1 fun t77 =>
                  ldI .u8 t77 w4 fun t78 =>
                  cond ((IntKind.u8.wrap (t68.fdiv (2 ^ (min (24 : Int).toNat IntKind.u32.bits)))) != t78)
                    (J4 (true, ()) w4)
                    (0 ≤ (16 : Int) ∧
                     ixK t72 1 1 fun t85 =>
                     ldI .u8 t85 w4 fun t86 =>
                     cond ((IntKind.u8.wrap (t68.fdiv (2 ^ (min (16 : Int).toNat IntKind.u32.bits)))) != t86)
                       (J4 (true, ()) w4)
                       (0 ≤ (8 : Int) ∧
                        ixK t72 2 1 fun t94 =>
                        ldI .u8 t94 w4 fun t95 =>
                        cond ((IntKind.u8.wrap (t68.fdiv (2 ^ (min (8 : Int).toNat IntKind.u32.bits)))) != t95)
                          (J4 (true, ()) w4)
                          (ixK t72 3 1 fun t102 =>
                           ldI .u8 t102 w4 fun t103 =>
                           J4 (((IntKind.u8.wrap t68) != t103), ()) w4))))) := by
  have hyl : (x :: y :: ys).length = ys.length + 2 := rfl
  have hys : (x :: y :: ys).drop 2 = ys := rfl
  have hbn := hb.n
  refine hb.slK (l := 2) (m := (x :: y :: ys).length) rfl (.inr rfl) (.inl ⟨rfl, rfl⟩) (by omega) (Nat.le_refl _) fun hp => ?_
  rw [List.take_length, hys] at hp
  obtain ⟨q, hq⟩ : ∃ q : Slc, q = ⟨cut b.a 2 b.c E_uint8.k, (x :: y :: ys).length - 2, b.c - 2⟩ := ⟨_, rfl⟩
  rw [← hq] at hp ⊢
  have hqb : ∀ k, q.blk = some k → k < w.heap.size := fun k hk => by
    rw [hq] at hk
    obtain ⟨a, ha, rfl⟩ := slk.1 hk
    obtain ⟨a', ha', e⟩ := cut_block ha
    rw [e]
    exact hbl _ (slk.2 ⟨a', ha', rfl⟩)
  refine rFront_spec hp hqb (by omega) hm fun o u e hist' w1 hfr hhl ho hB1 => ?_
  have ehd : ¬ headOK (x :: y :: ys) = false := by rw [hhd]; decide
  rcases hfr with ⟨rfl, c', a', hch2, h5, rfl, rfl⟩ | ⟨rfl, c', a'', n, hch2, hst2, rfl, hpx⟩
  · obtain ⟨rfl, rfl⟩ := hch.same hch2 (by rw [hst]; exact hr0) (by rw [step1_five h5]; intro _ _ e; cases e)
    have hr : r0 = .short := by rw [← hst, step1_five h5]
    subst hr
    have hal := (hch.le (Nat.zero_le _)).1
    obtain ⟨v, hv⟩ : ∃ v, v = (a1 + 7) / 8 := ⟨_, rfl⟩
    rw [← hv] at hK1 ⊢
    refine cond_f rfl ?_
    rw [wrap64_id (x := (6 : Int) + (v : Int)) (by omega), wrap64_id (x := (2 : Int) + (v : Int)) (by omega)]
    have ez : zerr (x :: y :: ys) c1 a1 .short = zend (x :: y :: ys) c1 a1 := by rw [zerr.eq_def, if_neg ehd]
    have etl : tailL c1 a1 ((x :: y :: ys).drop 2) = (ys.drop v).take 4 := by rw [tailL, if_pos h5, hys, hv]
    rw [hbn]
    by_cases hsh : ys.length < v + 4
    · have hz : zerr (x :: y :: ys) c1 a1 .short = 2 := by
        rw [ez, zend, if_neg]
        rw [etl, List.length_take, List.length_drop]
        omega
      exact cond_t (decide_eq_true (by omega)) (hK2 2 hz (by decide) o w1 hB1)
    refine cond_f (decide_eq_false (by omega)) ?_
    have h4 : ((ys.drop v).take 4).length = 4 := by rw [List.length_take, List.length_drop]; omega
    refine rAdler_spec ho.rd (by omega) ?_
    have hb1 := hb.ext hB1
    refine hb1.slK (l := 2 + v) (m := (x :: y :: ys).length) rfl (.inr rfl) (.inl ⟨rfl, rfl⟩) (by omega) (Nat.le_refl _) fun hp2 => ?_
    have ed : (x :: y :: ys).drop (2 + v) = ys.drop v := by rw [← List.drop_drop, hys]
    rw [List.take_length, ed] at hp2
    obtain ⟨x0, x1, x2, x3, zs, ex⟩ : ∃ x0 x1 x2 x3 zs, ys.drop v = x0 :: x1 :: x2 :: x3 :: zs := by
      have : 4 ≤ (ys.drop v).length := by rw [List.length_drop]; omega
      match ys.drop v, this with
      | x0 :: x1 :: x2 :: x3 :: zs, _ => exact ⟨x0, x1, x2, x3, zs, rfl⟩
    have etl4 : tailL c1 a1 ((x :: y :: ys).drop 2) = [x0, x1, x2, x3] := by rw [etl, ex]; rfl
    rw [ex] at hp2
    have hzl : (x0 :: x1 :: x2 :: x3 :: zs).length = zs.length + 4 := rfl
    have hsum := adlN_lt c1.hist
    obtain ⟨S, hS⟩ : ∃ S, S = adlN c1.hist := ⟨_, rfl⟩
    rw [← hS] at hsum ⊢
    have hz : zerr (x :: y :: ys) c1 a1 .short = if [x0, x1, x2, x3] = be4 S then 0 else 4 := by
      rw [ez, zend, etl4, if_pos (show [x0, x1, x2, x3].length = 4 from rfl), ← hS]
      by_cases hh : [x0, x1, x2, x3] = be4 S
      · rw [if_pos hh, hh, if_pos (big_be4 hsum)]
      · rw [if_neg hh, if_neg fun e => hh (big_inj rfl rfl (by rw [e, big_be4 hsum]))]
    refine joinP_of fun J3 hJ3 => ?_
    refine joinP_of fun J4 hJ4 => ?_
    rw [show (6 : Int) + (v : Int) = ((6 + v : Nat) : Int) by omega] at hJ3
    have no : [x0, x1, x2, x3] ≠ be4 S → J4 (true, ()) w1 := fun hne => hJ4 _ _ (cond_t rfl (hK2 4 (by rw [hz, if_neg hne]) (by decide) o w1 hB1))
    have yes : [x0, x1, x2, x3] = be4 S → J4 (false, ()) w1 := fun he => hJ4 _ _ (cond_f rfl (hJ3 _ _ (hK1 (by rw [hz, if_pos he]) o w1 ho hB1)))
    rw [show min ((24 : Int)).toNat IntKind.u32.bits = 24 by decide, show min ((16 : Int)).toNat IntKind.u32.bits = 16 by decide, show min ((8 : Int)).toNat IntKind.u32.bits = 8 by decide, fdiv_nat, fdiv_nat, fdiv_nat, wrap8_of, wrap8_of, wrap8_of, wrap8_of]
    have ne : ∀ {p : UInt8} {n : Nat}, (((((UInt8.ofNat n).toNat : Nat) : Int)) != ((p.toNat : Nat) : Int)) = true → UInt8.ofNat n ≠ p := fun {p n} h e => by rw [e] at h; simp at h
    have eq : ∀ {p : UInt8} {n : Nat}, (((((UInt8.ofNat n).toNat : Nat) : Int)) != ((p.toNat : Nat) : Int)) = false → UInt8.ofNat n = p := fun {p n} h => UInt8.toNat.inj (by rw [ne_nat] at h; simpa using h)
    refine ⟨by decide, ?_⟩
    refine hp2.ix (i := 0) rfl (by omega) (by omega) fun hc => ldB8 (b := x0) hc ?_
    refine cond_of (fun h0 => no fun e => ?_) (fun h0 => ⟨by decide, ?_⟩)
    · injection e with e _; exact ne h0 e.symm
    refine hp2.ix (i := 1) rfl (by omega) (by omega) fun hc => ldB8 (b := x1) hc ?_
    refine cond_of (fun h1 => no fun e => ?_) (fun h1 => ⟨by decide, ?_⟩)
    · injection e with _ e; injection e with e _; exact ne h1 e.symm
    refine hp2.ix (i := 2) rfl (by omega) (by omega) fun hc => ldB8 (b := x2) hc ?_
    refine cond_of (fun h2 => no fun e => ?_) (fun h2 => ?_)
    · injection e with _ e; injection e with _ e; injection e with e _; exact ne h2 e.symm
    refine hp2.ix (i := 3) rfl (by omega) (by omega) fun hc => ldB8 (b := x3) hc ?_
    cases h3 : ((((UInt8.ofNat S).toNat : Nat) : Int) != ((x3.toNat : Nat) : Int)) with
    | true => exact no fun e => by injection e with _ e; injection e with _ e; injection e with _ e; injection e with e _; exact ne h3 e.symm
    | false => exact yes (by unfold be4; rw [eq h0, eq h1, eq h2, eq h3])
  · obtain ⟨rfl, rfl⟩ := hch.same hch2 (by rw [hst]; exact hr0) (by
      rcases hst2 with ⟨e, _⟩ | ⟨e, _⟩
      · rw [e]; intro _ _ e; cases e
      · rw [e]; intro _ _ e; cases e)
    have hn0 : n ≠ 0 := by
      rcases hst2 with ⟨_, _, rfl⟩ | ⟨_, hn⟩
      · decide
      · exact hn
    refine cond_t (by have : ((n : Nat) : Int) ≠ 0 := by omega
                      simpa using this) (hK2 n ?_ hn0 o w1 hB1)
    rw [zerr.eq_def, if_neg ehd]
    rcases hst2 with ⟨e, hm5, rfl⟩ | ⟨e, _⟩
    · rw [hst] at e
      subst e
      show zend _ _ _ = 2
      rw [zend, if_neg]
      rw [tailL, if_neg hm5]
      decide
    · rw [hst] at e
      subst e
      rfl

theorem rzFront_spec {b : Slc} {bs : List UInt8} {most : Nat} {c1 : Cfg} {a1 : Nat} {r0 : SR} {K : Slc → Int → Int → World → Prop} (hm : most ≤ 1073741824) (hb : Rd E_uint8 w b bs) (hbl : ∀ k, b.blk = some k → k < w.heap.size) (hl : bs.length ≤ 999999990)
    (hch : Ch most (bs.drop 2) cfg0 0 c1 a1) (hst : step1 most (bs.drop 2) a1 c1 = r0) (hr0 : ∀ c a, r0 ≠ .next c a)
    (hK1 : zerr bs c1 a1 r0 = 0 → ∀ o w', Own E_uint8 w' w.heap.size o c1.hist → Below w.heap.size w w' → K o ((6 + (a1 + 7) / 8 : Nat) : Int) 0 w')
    (hK2 : ∀ n, zerr bs c1 a1 r0 = n → n ≠ 0 → ∀ o w', Below w.heap.size w w' → K o 0 n w') : c_phosphorref6_Front b most w K := by
  refine call_phosphorref6_Front _ _ ?_
  unfold sh_phosphorref6_Front
  have hBd : Below w.heap.size w w.drew := (Below.refl _ w).drew
  have hbn := hb.n
  match bs with
  | [] =>
    have hbn : b.n = 0 := hbn
    obtain ⟨rfl, rfl, rfl⟩ := run_nil hch hst hr0
    rw [hbn]
    exact cond_t rfl (hK2 2 rfl (by decide) _ _ (Below.refl _ _))
  | x :: xs =>
    have hxl : (x :: xs).length = xs.length + 1 := rfl
    have hx8 := x.toNat_lt
    refine cond_f (beq_eq_false_iff_ne.2 (by omega)) ?_
    refine joinP_of fun J1 hJ1 => ?_
    refine joinP_of fun J6 hJ6 => ?_
    refine hb.ix (i := 0) rfl (by omega) (by omega) fun hc => ldB8 (b := x) hc ⟨by decide, ?_⟩
    have no : zh1 x = false → J6 (true, ()) w := fun hz => hJ6 _ _ (cond_t rfl (hK2 3 (by
      rw [zerr.eq_def, if_pos]
      match xs with
      | [] => exact hz
      | y :: ys => show (zh1 x && zh2 x y) = false; rw [hz, Bool.false_and]) (by decide) _ _ (Below.refl _ _)))
    have yes : zh1 x = true → J6 (false, ()) w := fun hz => hJ6 _ _ (cond_f rfl (hJ1 _ _ (by
      clear hJ6 no hJ1
      match xs with
      | [] =>
        have hbn : b.n = 1 := hbn
        obtain ⟨rfl, rfl, rfl⟩ := run_nil hch hst hr0
        rw [hbn]
        refine cond_t rfl (hK2 2 ?_ (by decide) _ _ (Below.refl _ _))
        rw [zerr.eq_def, if_neg (by show ¬ zh1 x = false; rw [hz]; decide)]
        rfl
      | y :: ys =>
        have hy8 := y.toNat_lt
        have hyl : (x :: y :: ys).length = ys.length + 2 := rfl
        refine cond_f (decide_eq_false (by omega)) ?_
        refine joinP_of fun J2 hJ2 => ?_
        refine joinP_of fun J5 hJ5 => ?_
        refine (hb.ext hBd).ix (i := 0) rfl (by omega) (by omega) fun hc => ldB8 (b := x) hc ?_
        refine (hb.ext hBd).ix (i := 1) rfl (by omega) (by omega) fun hc => ldB8 (b := y) hc ⟨by decide, ?_⟩
        rw [wrap_nat .i64 (x := x.toNat) (by show _ < 2 ^ 63; omega), wrap_nat .i64 (x := y.toNat) (by show _ < 2 ^ 63; omega), show ((x.toNat : Nat) : Int) * 256 = ((x.toNat * 256 : Nat) : Int) by omega, wrap_nat .i64 (x := x.toNat * 256) (by show _ < 2 ^ 63; omega),
          show ((x.toNat * 256 : Nat) : Int) + ((y.toNat : Nat) : Int) = ((x.toNat * 256 + y.toNat : Nat) : Int) from rfl, wrap_nat .i64 (x := x.toNat * 256 + y.toNat) (by show _ < 2 ^ 63; omega), show (31 : Int) = ((31 : Nat) : Int) from rfl, ← Int.ofNat_tmod]
        have no5 : zh2 x y = false → J5 (true, ()) w.drew := fun hz2 => hJ5 _ _ (cond_t rfl (hK2 3 (by
          rw [zerr.eq_def, if_pos]
          show (zh1 x && zh2 x y) = false
          rw [hz2, Bool.and_false]) (by decide) _ _ hBd))
        have yes5 : zh2 x y = true → J5 (false, ()) w.drew := fun hz2 => hJ5 _ _ (cond_f rfl (hJ2 _ _ (by
          have hhd : headOK (x :: y :: ys) = true := by show (zh1 x && zh2 x y) = true; rw [hz, hz2]; rfl
          exact rzFront_rest hm (hb.ext hBd) (fun k hk => hbl k hk) (by omega) hch hst hr0 hhd (fun h0 o w' ho hB => hK1 h0 o w' ho (hBd.trans hB)) (fun n hn h0 o w' hB => hK2 n hn h0 o w' (hBd.trans hB)))))
        unfold zh2 at no5 yes5
        cases h31 : ((x.toNat * 256 + y.toNat) % 31 == 0) with
        | false =>
          have h31' := beq_eq_false_iff_ne.1 h31
          rw [h31, Bool.false_and] at no5
          exact cond_t (bne_iff_ne.2 (by omega)) (no5 rfl)
        | true =>
          have h31' := eq_of_beq h31
          rw [h31, Bool.true_and] at no5 yes5
          refine cond_f (by rw [h31']; rfl) ?_
          refine (hb.ext hBd).ix (i := 1) rfl (by omega) (by omega) fun hc => ldB8 (b := y) hc ?_
          rw [show (32 : Int) = ((32 : Nat) : Int) from rfl, bits_and .u8 (by show _ < 2 ^ 8; omega) (by decide)]
          cases h32 : (y.toNat &&& 32 == 0) with
          | true =>
            rw [eq_of_beq h32]
            exact yes5 h32
          | false =>
            have := no5 h32
            have e : (((y.toNat &&& 32 : Nat) : Int) != (0 : Int)) = true := bne_iff_ne.2 (by have := beq_eq_false_iff_ne.1 h32; omega)
            rw [e]
            exact this)))
    unfold zh1 at no yes
    rw [show (16 : Int) = ((16 : Nat) : Int) from rfl, ← Int.ofNat_tmod]
    cases h16 : (x.toNat % 16 == 8) with
    | false =>
      have h16' := beq_eq_false_iff_ne.1 h16
      rw [h16, Bool.false_and] at no
      exact cond_t (bne_iff_ne.2 (by omega)) (no rfl)
    | true =>
      have h16' := eq_of_beq h16
      rw [h16, Bool.true_and] at no yes
      refine cond_f (by rw [h16']; rfl) ?_
      refine hb.ix (i := 0) rfl (by omega) (by omega) fun hc => ldB8 (b := x) hc ⟨by decide, ?_⟩
      rw [← Int.ofNat_tdiv, wrap_nat .u8 (x := x.toNat / 16) (by show _ < 2 ^ 8; omega)]
      by_cases h7 : x.toNat / 16 ≤ 7
      · have := yes (decide_eq_true h7)
        rw [show decide (((x.toNat / 16 : Nat) : Int) > 7) = false from decide_eq_false (by omega)]
        exact this
      · have := no (decide_eq_false h7)
        rw [show decide (((x.toNat / 16 : Nat) : Int) > 7) = true from decide_eq_true (by omega)]
        exact this

theorem rUnpack_bad {b : Slc} {most : Int} {K : Slc → Int → Int → World → Prop} (hm : most < 0 ∨ most > 1073741824) (hK : K nilS 0 1 w) : c_phosphorref6_Unpack b most w K := by
  refine call_phosphorref6_Unpack _ _ ?_
  unfold sh_phosphorref6_Unpack
  refine joinP_of fun J1 hJ1 => ?_
  refine joinP_of fun J2 hJ2 => ?_
  refine cond_of (fun h => hJ2 _ _ (cond_t rfl hK)) (fun h => hJ2 _ _ (cond_t (decide_eq_true ?_) hK))
  have := of_decide_eq_false h
  omega
theorem rUnpack_spec {b : Slc} {bs : List UInt8} {most : Nat} {c1 : Cfg} {a1 : Nat} {r0 : SR} {K : Slc → Int → Int → World → Prop} (hm : most ≤ 1073741824) (hb : Rd E_uint8 w b bs) (hbl : ∀ k, b.blk = some k → k < w.heap.size) (hl : bs.length ≤ 999999990)
    (hch : Ch most (bs.drop 2) cfg0 0 c1 a1) (hst : step1 most (bs.drop 2) a1 c1 = r0) (hr0 : ∀ c a, r0 ≠ .next c a)
    (hK1 : zerr bs c1 a1 r0 = 0 → ∀ o w', Own E_uint8 w' w.heap.size o c1.hist → Below w.heap.size w w' → K o ((6 + (a1 + 7) / 8 : Nat) : Int) 0 w')
    (hK2 : ∀ n, zerr bs c1 a1 r0 = n → n ≠ 0 → ∀ w', Below w.heap.size w w' → K nilS 0 n w') : c_phosphorref6_Unpack b most w K := by
  refine call_phosphorref6_Unpack _ _ ?_
  unfold sh_phosphorref6_Unpack
  refine joinP_of fun J1 hJ1 => ?_
  refine joinP_of fun J2 hJ2 => ?_
  refine cond_f (decide_eq_false (by omega)) (hJ2 _ _ (cond_f (decide_eq_false (by omega)) (hJ1 _ _ ?_)))
  exact rzFront_spec hm hb hbl hl hch hst hr0 (fun h0 o w' ho hB => cond_f rfl (hK1 h0 o w' ho hB)) fun n hn h0 o w' hB => cond_t (by
    have : ((n : Nat) : Int) ≠ 0 := by omega
    simpa using this) (hK2 n hn h0 w' hB)

theorem rPack_spec {b : Slc} {bs : List UInt8} {fixed : Bool} {K : Slc → World → Prop} (hb : Rd E_uint8 w b bs) (hl : bs.length ≤ 1000000000)
    (hK : ∀ r body w', Own E_uint8 w' w.heap.size r (packL body bs) → isBody fixed body bs → Below w.heap.size w w' → K r w') : c_phosphorref6_Pack b fixed w K := by
  refine call_phosphorref6_Pack _ _ ?_
  unfold sh_phosphorref6_Pack
  have hsl := storeL_length _ bs (Nat.le_refl _)
  refine rStore_spec hb hl fun t w1 ho1 hB1 => ?_
  have hs1 := hB1.size
  refine joinP_of fun J hJ => ?_
  have go : ∀ (x : Slc) body w2, Own E_uint8 w2 w.heap.size x body → Below w.heap.size w w2 → body.length ≤ 100000000000 → isBody fixed body bs → J (x, ()) w2 := fun x body w2 hx hB hbl hbd => hJ _ _ (by
    clear hJ
    dsimp only
    have hs2 := hB.size
    refine rAdler_spec (hb.ext hB) (by omega) ?_
    refine nw_blk fun w3 hb3 hB3 hs3 => ?_
    have r3 : Own E_uint8 w3 w2.heap.size ⟨some ⟨w2.heap.size, 0, none⟩, 2, 2⟩ [120, 1] := own_lits (E := E_uint8) (ys := [120, 1]) (Nat.le_refl _) hb3 (by decide) rfl
    refine apB r3 (hx.ext hB3).rd (by omega) (by show 2 + body.length ≤ _; omega) fun r4 w4 ho4 hc4 hq4 => ⟨by decide, by decide, by decide, ?_⟩
    have hB24 : Below w2.heap.size w2 w4 := hB3.trans (hc4.below (by omega) fun i hi e => by injection e with e; have e : w2.heap.size = i := e; omega)
    have hs4 := hB24.size
    rw [show min ((24 : Int)).toNat IntKind.u32.bits = 24 by decide, show min ((16 : Int)).toNat IntKind.u32.bits = 16 by decide, show min ((8 : Int)).toNat IntKind.u32.bits = 8 by decide, fdiv_nat, fdiv_nat, fdiv_nat, wrap8_of, wrap8_of, wrap8_of, wrap8_of]
    refine nw_blk fun w5 hb5 hB5 hs5 => ?_
    have r5 : Rd E_uint8 w5 ⟨some ⟨w4.heap.size, 0, none⟩, 4, 4⟩ (be4 (adlN bs)) := rd_lits (E := E_uint8) (ys := be4 (adlN bs)) hb5 (by show 4 ≤ maxLen; simp [maxLen]) rfl
    refine apB (ho4.ext hB5) r5 (by omega) (by rw [List.length_append]; show 2 + body.length + 4 ≤ _; omega) fun r6 w6 ho6 hc6 hq6 => ?_
    have hB25 : Below w2.heap.size w2 w5 := hB24.trans (hB5.mono hs4)
    have hB26 : Below w2.heap.size w2 w6 := hB25.trans (hc6.below hB25.size fun i hi e => by have := (ho4.lt i e).1; omega)
    exact hK r6 body w6 (ho6.base hs2) hbd (hB.trans (hB26.mono hs2)))
  cases fixed with
  | true =>
    refine cond_t rfl ?_
    refine rFixed_spec (hb.ext hB1) hl fun r ys w2 ho2 hle2 hlen2 hB2 => ?_
    have := fixedN_le bs
    exact go r ys w2 (ho2.base hs1) (hB1.trans (hB2.mono hs1)) (by omega) ⟨(fun e => by cases e), fun _ => ⟨hle2, hlen2⟩⟩
  | false =>
    exact cond_f rfl (go t _ w1 ho1 hB1 (by omega) ⟨fun _ => rfl, (fun e => by cases e)⟩)
theorem isBody_eq {fixed : Bool} {x y bs : List UInt8} (hx : isBody fixed x bs) (hy : isBody fixed y bs) : x = y := by
  cases fixed with
  | true =>
    obtain ⟨h1, h2⟩ := hx.2 rfl
    obtain ⟨h3, h4⟩ := hy.2 rfl
    exact le_inj _ _ (by omega) (by omega)
  | false => rw [hx.1 rfl, hy.1 rfl]
end
end Go.Proofs.Yteffnkpplhcomaa

namespace Go.Proofs.Yteffnkpplhcomaa
open Go.Vc Go.RowKit
set_option maxRecDepth 400000
section
variable {w : World}
/-- The program's Unpack and the document's tell the same. -/
theorem unpack_both {b : Slc} {bs : List UInt8} {most : Int} {K : Slc → Int → Int → Slc → Int → Int → World → Prop} (hb : Rd E_uint8 w b bs) (hbl : ∀ k, b.blk = some k → k < w.heap.size) (hl : bs.length ≤ 100000000)
    (hK : ∀ x y xs n e w', Rd E_uint8 w' x xs → Rd E_uint8 w' y xs → Below w.heap.size w w' → K x n e y n e w') :
    c_zlib_Unpack b most w fun t36 t36_1 t36_2 w3 => c_phosphorref6_Unpack b most w3 fun t43 t43_1 t43_2 w4 => K t36 t36_1 t36_2 t43 t43_1 t43_2 w4 := by
  by_cases hm : most < 0 ∨ most > 1073741824
  · exact Unpack_bad hm (rUnpack_bad hm (hK _ _ [] _ _ w (Rd.nil _ _) (Rd.nil _ _) (Below.refl _ _)))
  obtain ⟨m, rfl⟩ : ∃ m : Nat, most = (m : Int) := ⟨most.toNat, by omega⟩
  obtain ⟨c1, a1, r0, hch, hst, hr0⟩ := run_stops m (bs.drop 2) _ cfg0 0 (Nat.le_refl _) (Nat.zero_le _)
  refine Unpack_spec (by omega) hb hbl (by omega) hch hst hr0 (fun hz o w1 ho hB1 => ?_) (fun n hz hn w1 hB1 => ?_)
  · have hs1 := hB1.size
    refine rUnpack_spec (by omega) (hb.ext hB1) (fun k hk => by have := hbl k hk; omega) (by omega) hch hst hr0 (fun _ o2 w2 ho2 hB2 => ?_) (fun n hz' hn => absurd (hz'.symm.trans hz) hn)
    exact hK o o2 c1.hist _ _ w2 (ho.ext hB2).rd ho2.rd (hB1.trans (hB2.mono hs1))
  · have hs1 := hB1.size
    refine rUnpack_spec (by omega) (hb.ext hB1) (fun k hk => by have := hbl k hk; omega) (by omega) hch hst hr0 (fun hz' => absurd (hz.symm.trans hz') hn) (fun n' hz' hn' w2 hB2 => ?_)
    have e : n' = n := hz'.symm.trans hz
    subst e
    exact hK nilS nilS [] _ _ w2 (Rd.nil _ _) (Rd.nil _ _) (hB1.trans (hB2.mono hs1))

theorem streams_law {b data : Slc} {bs ds : List UInt8} {most : Int} {fixed : Bool} {K : Bool → World → Prop} (hb : Rd E_uint8 w b bs) (hbl : ∀ k, b.blk = some k → k < w.heap.size) (hd : Rd E_uint8 w data ds) (hK : ∀ w', Below w.heap.size w w' → K true w') : c_phosphorlaw6_ZlibStreams b most data fixed w K := by
  refine call_phosphorlaw6_ZlibStreams _ _ _ _ ?_
  unfold sh_phosphorlaw6_ZlibStreams
  refine zknown_spec fun w1 hB1 => cond_f rfl ?_
  have hs1 := hB1.size
  rw [hb.n, hd.n]
  refine joinP_of fun J1 hJ1 => ?_
  refine cond_of (fun _ => hK w1 hB1) (fun hn => cond_of (fun _ => hK w1 hB1) (fun hm => ?_))
  have hn : bs.length ≤ 4096 := by have := of_decide_eq_false hn; omega
  have hm : ds.length ≤ 4096 := by have := of_decide_eq_false hm; omega
  have key : J1 () w1 := hJ1 _ _ (by
    clear hJ1
    refine unpack_both (hb.ext hB1) (fun k hk => by have := hbl k hk; omega) (by omega) fun x y xs n e w4 hx hy hB => ?_
    have hB4 : ∀ {w'}, Below w4.heap.size w4 w' → Below w.heap.size w w' := fun h => (hB1.trans (hB.mono hs1)).trans (h.mono (by have := hB.size; omega))
    have WB : Below w4.heap.size w4 w4.drew := (Below.refl _ w4).drew
    refine ⟨⟨_, _, run_bytes_strB (hx.ext WB), ?_⟩, ⟨_, _, run_bytes_strB (hy.ext WB), ?_⟩⟩
    · dsimp only
      refine ⟨_, _, run_bytes_strB (hy.ext WB), ?_⟩
      dsimp only
      refine cond_t (by rw [beq_self_eq_true]) (cond_t (by rw [beq_self_eq_true]) (cond_t (by rw [beq_self_eq_true]) ?_))
      refine Pack_spec (hd.ext (hB4 WB)) (by omega) fun p body w7 hp hb0 hb1 hB7 => ?_
      have hbd : isBody fixed body ds := ⟨hb0, hb1⟩
      have hs7 := hB7.size
      have hs4' := (hB4 WB).size
      have hB07 : Below w.heap.size w w7 := (hB4 WB).trans (hB7.mono hs4')
      refine ⟨⟨_, _, run_bytes_strB hp.rd, ?_⟩, ?_⟩
      · dsimp only
        refine rPack_spec (hd.ext hB07) (by omega) fun q body' w8 hq hbd' hB8 => ?_
        have e := isBody_eq hbd hbd'
        subst e
        refine ⟨_, _, run_bytes_strB hq.rd, ?_⟩
        dsimp only
        rw [beq_self_eq_true]
        exact hK w8 (hB07.trans (hB8.mono (by omega)))
      · refine rPack_spec (hd.ext hB07) (by omega) fun q body' w8 hq hbd' hB8 => ?_
        have e := isBody_eq hbd hbd'
        subst e
        have hB08 := hB07.trans (hB8.mono (by omega))
        refine ⟨⟨_, _, run_bytes_strB (hp.ext hB8).rd, ?_⟩, ⟨_, _, run_bytes_strB hq.rd, ?_⟩⟩
        · dsimp only
          refine ⟨_, _, run_bytes_strB hq.rd, ?_⟩
          dsimp only
          rw [beq_self_eq_true]
          exact hK w8 hB08
        · dsimp only
          refine ⟨_, _, run_bytes_strB (hp.ext hB8).rd, ?_⟩
          dsimp only
          rw [beq_self_eq_true]
          exact hK w8 hB08
    · dsimp only
      refine ⟨_, _, run_bytes_strB (hx.ext WB), ?_⟩
      dsimp only
      refine cond_t (by rw [beq_self_eq_true]) (cond_t (by rw [beq_self_eq_true]) (cond_t (by rw [beq_self_eq_true]) ?_))
      refine Pack_spec (hd.ext (hB4 WB)) (by omega) fun p body w7 hp hb0 hb1 hB7 => ?_
      have hbd : isBody fixed body ds := ⟨hb0, hb1⟩
      have hs7 := hB7.size
      have hs4' := (hB4 WB).size
      have hB07 : Below w.heap.size w w7 := (hB4 WB).trans (hB7.mono hs4')
      refine ⟨⟨_, _, run_bytes_strB hp.rd, ?_⟩, ?_⟩
      · dsimp only
        refine rPack_spec (hd.ext hB07) (by omega) fun q body' w8 hq hbd' hB8 => ?_
        have e := isBody_eq hbd hbd'
        subst e
        refine ⟨_, _, run_bytes_strB hq.rd, ?_⟩
        dsimp only
        rw [beq_self_eq_true]
        exact hK w8 (hB07.trans (hB8.mono (by omega)))
      · refine rPack_spec (hd.ext hB07) (by omega) fun q body' w8 hq hbd' hB8 => ?_
        have e := isBody_eq hbd hbd'
        subst e
        have hB08 := hB07.trans (hB8.mono (by omega))
        refine ⟨⟨_, _, run_bytes_strB (hp.ext hB8).rd, ?_⟩, ⟨_, _, run_bytes_strB hq.rd, ?_⟩⟩
        · dsimp only
          refine ⟨_, _, run_bytes_strB hq.rd, ?_⟩
          dsimp only
          rw [beq_self_eq_true]
          exact hK w8 hB08
        · dsimp only
          refine ⟨_, _, run_bytes_strB (hp.ext hB8).rd, ?_⟩
          dsimp only
          rw [beq_self_eq_true]
          exact hK w8 hB08)
  exact cond_of (fun _ => cond_of (fun _ => hK w1 hB1) fun _ => key) fun _ => key
end
end Go.Proofs.Yteffnkpplhcomaa
