/- The program's reader of bits. -/
import Derived.Test.YteffnkpplhcomaaB1
import Derived.Test.YteffnkpplhcomaaInfP
namespace Go.Proofs.Yteffnkpplhcomaa
open Go.Vc Go.RowKit

structure RdrM (w : World) (g : Nat) (s : Slc) (bs : List UInt8) (at_ : Nat) : Prop where
  blk : Blk w g ty_bits_Reader [.slice s.a s.n s.c, .int .i64 at_]
  rd : Rd E_uint8 w s bs
  le : at_ ≤ 8 * bs.length
  sm : bs.length ≤ 1000000000000
  ne : ∀ k, s.blk = some k → k ≠ g
section
variable {w w' : World} {g : Nat} {s : Slc} {bs : List UInt8} {at_ : Nat}
theorem RdrM.chg {T : Nat → Prop} (h : RdrM w g s bs at_) (hc : Chg T w w') (hg : ¬ T g) (hs : ∀ k, s.blk = some k → ¬ T k) : RdrM w' g s bs at_ :=
  ⟨h.blk.chg hc hg, h.rd.chg hc fun a ha => hs _ (slk.2 ⟨a, ha, rfl⟩), h.le, h.sm, h.ne⟩
theorem RdrM.ext (h : RdrM w g s bs at_) (hb : Below w.heap.size w w') : RdrM w' g s bs at_ := h.chg (Chg.of_ext (S := fun _ => False) hb) id fun _ _ => id
theorem RdrM.drew (h : RdrM w g s bs at_) : RdrM w.drew g s bs at_ := h.ext ((Below.refl _ w).drew)
/-- The reader goes to another place. -/
theorem RdrM.move {b : Nat} (h : RdrM w g s bs at_) (hb : Blk w' g ty_bits_Reader [.slice s.a s.n s.c, .int .i64 b]) (hg : w.grownBy w' (some g)) (hl : b ≤ 8 * bs.length) : RdrM w' g s bs b :=
  ⟨hb, h.rd.chg (Chg.gg hg) fun a ha => h.ne _ (slk.2 ⟨a, ha, rfl⟩), hl, h.sm, h.ne⟩

theorem tmod8 (n : Nat) : ((n : Nat) : Int).tmod 8 = ((n % 8 : Nat) : Int) := IntWalk.up_tmod rfl rfl
theorem tdiv8 (n : Nat) : ((n : Nat) : Int).tdiv 8 = ((n / 8 : Nat) : Int) := IntWalk.up_tdiv rfl rfl
theorem and7 (x : Int) : bitsR .and .i64 x 7 = x % 8 := by
  have h7 : (BitVec.ofInt 64 (7 : Int)).toNat = 2 ^ 3 - 1 := by decide
  show IntKind.i64.wrap ((BitVec.ofInt 64 x &&& BitVec.ofInt 64 (7 : Int)).toNat : Int) = _
  rw [BitVec.toNat_and, h7, Nat.and_two_pow_sub_one_eq_mod, BitVec.toNat_ofInt]
  rw [wrap64_id (by omega)]
  omega

theorem Left_spec {K : Int → World → Prop} (h : RdrM w g s bs at_) (hK : K ((8 * bs.length - at_ : Nat) : Int) w.drew) : c_bits_Reader_Left (some ⟨g, 0, none⟩) w K := by
  refine call_bits_Reader_Left _ ?_
  unfold sh_bits_Reader_Left
  simp only [onPtr_some]
  refine ldSl_of (x := s) (h.drew.blk.cells 0 _ rfl) ?_
  refine ldI_of (x := (at_ : Int)) (h.drew.blk.cells 1 _ rfl) ?_
  have h1 := h.le
  have h2 := h.sm
  rw [h.rd.n, wrap64_id (x := 8 * ((bs.length : Nat) : Int)) (by omega), wrap64_id (by omega)]
  have e : 8 * ((bs.length : Nat) : Int) - at_ = ((8 * bs.length - at_ : Nat) : Int) := by omega
  rw [e]
  exact hK

theorem Peek_spec {n : Int} {K : Int → Bool → World → Prop} (h : RdrM w g s bs at_)
    (hK1 : ∀ (m : Nat) w', n = m → m ≤ 32 → at_ + m ≤ 8 * bs.length → Below w.heap.size w w' → K ((peekN bs at_ m : Nat) : Int) true w')
    (hK2 : ∀ w', (n < 0 ∨ n > 32 ∨ (at_ : Int) + n > 8 * bs.length) → Below w.heap.size w w' → K 0 false w') : c_bits_Reader_Peek (some ⟨g, 0, none⟩) n w K := by
  refine call_bits_Reader_Peek _ _ ?_
  unfold sh_bits_Reader_Peek
  have h1 := h.le
  have h2 := h.sm
  refine joinP_of fun J hJ => ?_
  refine cond_of (fun c => hK2 _ (.inl (of_decide_eq_true c)) (Below.refl _ _)) (fun c1 => ?_)
  refine cond_of (fun c => hK2 _ (.inr (.inl (of_decide_eq_true c))) (Below.refl _ _)) (fun c2 => ?_)
  refine Left_spec h ?_
  have hBd : Below w.heap.size w w.drew := (Below.refl _ w).drew
  refine cond_of (fun c => hK2 _ (.inr (.inr (by have := of_decide_eq_true c; omega))) hBd) (fun c3 => hJ _ _ ?_)
  have c1 := of_decide_eq_false c1
  have c2 := of_decide_eq_false c2
  have c3 := of_decide_eq_false c3
  obtain ⟨m, rfl⟩ : ∃ m : Nat, n = m := ⟨n.toNat, by omega⟩
  clear hJ hK2
  simp only [onPtr_some]
  refine ldI_of (x := (at_ : Int)) (h.drew.blk.cells 1 _ rfl) ⟨by decide, by decide, ?_⟩
  have hcnt : IntKind.i64.wrap ((IntKind.i64.wrap ((IntKind.i64.wrap (((at_ % 8 : Nat) : Int) + m)) + 7)).tdiv 8) = (((at_ % 8 + m + 7) / 8 : Nat) : Int) := by
    rw [wrap64_id (x := ((at_ % 8 : Nat) : Int) + m) (by omega), wrap64_id (x := ((at_ % 8 : Nat) : Int) + m + 7) (by omega)]
    have e : ((at_ % 8 : Nat) : Int) + m + 7 = ((at_ % 8 + m + 7 : Nat) : Int) := by omega
    rw [e, tdiv8, wrap64_id (by omega)]
  obtain ⟨cnt, hcn⟩ : ∃ c : Nat, (at_ % 8 + m + 7) / 8 = c := ⟨_, rfl⟩
  rw [hcn] at hcnt
  simp only [tmod8, hcnt]
  have hc5 : cnt ≤ 5 := by omega
  refine loopP_rule (fun (s : Int × Int × Unit) w2 => ∃ i : Nat, s.2.1 = i ∧ i ≤ cnt ∧ s.1 = ((le ((bs.drop (at_ / 8)).take i) : Nat) : Int) ∧ Below w.heap.size w w2) (fun s => cnt - s.2.1.toNat) ⟨0, rfl, by omega, rfl, hBd⟩ ?_
  rintro ⟨v, i, _⟩ w2 ⟨i, rfl, hi, rfl, hB⟩ I hI
  dsimp only at *
  have hr2 := h.ext hB
  refine cond_of (fun hlt => ?_) (fun hge => ?_)
  · have hlt := of_decide_eq_true hlt
    refine ldSl_of (x := s) (hr2.drew.blk.cells 0 _ rfl) ?_
    refine ldI_of (x := (at_ : Int)) (hr2.drew.blk.cells 1 _ rfl) ⟨by decide, ?_⟩
    rw [tdiv8, wrap64_id (x := ((at_ / 8 : Nat) : Int)) (by omega), wrap64_id (x := ((at_ / 8 : Nat) : Int) + i) (by omega)]
    have hlt' : at_ / 8 + i < bs.length := by omega
    have e : ((at_ / 8 : Nat) : Int) + i = ((at_ / 8 + i : Nat) : Int) := by omega
    rw [e]
    refine hr2.rd.drew.ix rfl (by omega) (by omega) fun hc => ?_
    refine ldB8 (b := bs[at_ / 8 + i]) hc ?_
    rw [wrap64_id (x := 8 * (i : Int)) (by omega), wrap64_id (by omega)]
    refine ⟨by omega, hI _ _ ⟨i + 1, by simp, by omega, ?_, hB.drew⟩ (by simp; omega)⟩
    have ht : (bs.drop (at_ / 8)).take (i + 1) = (bs.drop (at_ / 8)).take i ++ [bs[at_ / 8 + i]] := by
      rw [List.take_add_one, List.getElem?_drop, List.getElem?_eq_getElem hlt']
      rfl
    have hlen : ((bs.drop (at_ / 8)).take i).length = i := by simp; omega
    have hlt8 := bs[at_ / 8 + i].toNat_lt
    have hv := le_lt ((bs.drop (at_ / 8)).take i)
    rw [hlen, pow256] at hv
    have hp : 2 ^ (8 * i) ≤ 2 ^ 32 := Nat.pow_le_pow_right (by decide) (by omega)
    have hp' : bs[at_ / 8 + i].toNat * 2 ^ (8 * i) ≤ 255 * 2 ^ 32 := Nat.mul_le_mul (by omega) hp
    have e2 : (8 * (i : Int)).toNat = 8 * i := by omega
    have e3 : min (8 * i) IntKind.u64.bits = 8 * i := Nat.min_eq_left (by show 8 * i ≤ 64; omega)
    dsimp only
    rw [e2, e3, wrap_nat .u64 (x := bs[at_ / 8 + i].toNat) (by show _ < 2 ^ 64; omega), mul_pow_nat, wrap_nat .u64 (by show _ < 2 ^ 64; omega), bits_or .u64 (by show _ < 2 ^ 64; omega) (by show _ < 2 ^ 64; omega)]
    rw [ht, le_append, hlen, pow256, Nat.mul_comm _ (2 ^ (8 * i)), add_or hv]
    show _ = ((_ + 2 ^ (8 * i) * (bs[at_ / 8 + i].toNat + 256 * 0) : Nat) : Int)
    rfl
  · have hge := of_decide_eq_false hge
    have : i = cnt := by omega
    subst this
    refine ⟨by omega, by omega, ?_⟩
    have hlen : ((bs.drop (at_ / 8)).take i).length ≤ i := by simp; omega
    have hv := le_lt ((bs.drop (at_ / 8)).take i)
    have hv' : le ((bs.drop (at_ / 8)).take i) < 2 ^ 40 := Nat.lt_of_lt_of_le hv (by rw [pow256]; exact Nat.pow_le_pow_right (by decide) (by omega))
    have e2 : (((at_ % 8 : Nat) : Int)).toNat = at_ % 8 := rfl
    have e3 : min (at_ % 8) IntKind.u64.bits = at_ % 8 := Nat.min_eq_left (by show at_ % 8 ≤ 64; omega)
    have e4 : min ((m : Int)).toNat IntKind.u64.bits = m := by show min m 64 = m; omega
    have hm : 2 ^ m ≤ 2 ^ 32 := Nat.pow_le_pow_right (by decide) (by omega)
    have hm0 : 0 < 2 ^ m := Nat.pow_pos (by decide)
    have e5 : IntKind.u64.wrap ((IntKind.u64.wrap ((1 : Int) * 2 ^ m)) - 1) = ((2 ^ m - 1 : Nat) : Int) := by
      have := mul_pow_nat 1 m
      rw [show ((1 : Int) * 2 ^ m) = ((2 ^ m : Nat) : Int) by simp, wrap_nat .u64 (by show _ < 2 ^ 64; omega)]
      have e : ((2 ^ m : Nat) : Int) - 1 = ((2 ^ m - 1 : Nat) : Int) := by omega
      rw [e, wrap_nat .u64 (by show _ < 2 ^ 64; omega)]
    rw [e2, e3, e4, e5, fdiv_nat]
    have hd : le ((bs.drop (at_ / 8)).take i) / 2 ^ (at_ % 8) < 2 ^ 64 := Nat.lt_of_le_of_lt (Nat.div_le_self _ _) (by omega)
    rw [bits_and .u64 hd (by show _ < 2 ^ 64; omega), Nat.and_two_pow_sub_one_eq_mod]
    have hb := peekN_bytes bs at_ m i (by omega) (by omega)
    rw [← hb]
    have hpl := peekN_lt bs at_ m
    rw [wrap_nat .u32 (by show _ < 2 ^ 32; omega)]
    exact hK1 m _ rfl (by omega) (by omega) hB.drew

theorem Bits_spec {n : Int} {K : Int → Bool → World → Prop} (h : RdrM w g s bs at_)
    (hK1 : ∀ (m : Nat) w', n = m → m ≤ 32 → at_ + m ≤ 8 * bs.length → RdrM w' g s bs (at_ + m) → Chg (fun k => k = g) w w' → K ((peekN bs at_ m : Nat) : Int) true w')
    (hK2 : ∀ w', (n < 0 ∨ n > 32 ∨ (at_ : Int) + n > 8 * bs.length) → Below w.heap.size w w' → K 0 false w') : c_bits_Reader_Bits (some ⟨g, 0, none⟩) n w K := by
  refine call_bits_Reader_Bits _ _ ?_
  unfold sh_bits_Reader_Bits
  refine Peek_spec h (fun m w1 e hm hl hB => ?_) (fun w1 hn hB => ?_)
  · subst e
    refine joinP_of fun J hJ => ?_
    refine cond_t rfl ?_
    simp only [onPtr_some]
    have h1 := h.ext hB
    have h2 := h.sm
    refine ldI_of (x := (at_ : Int)) (h1.blk.cells 1 _ rfl) ?_
    rw [add_mk, wrap64_id (by omega)]
    refine stK_blk h1.blk (by simp) fun w2 hb2 hg2 hs2 => hJ _ _ ?_
    have e : ((at_ : Nat) : Int) + m = ((at_ + m : Nat) : Int) := by omega
    rw [e] at hb2
    exact hK1 m w2 rfl hm hl (h1.move hb2 hg2 hl) ((Chg.of_ext (S := fun k => k = g) hB).trans (Chg.gg hg2) fun i _ hi => hi)
  · refine joinP_of fun J hJ => ?_
    exact cond_f rfl (hJ _ _ (hK2 w1 hn hB))

theorem At_spec {K : Int → World → Prop} (h : RdrM w g s bs at_) (hK : K at_ w) : c_bits_Reader_At (some ⟨g, 0, none⟩) w K := by
  refine call_bits_Reader_At _ ?_
  unfold sh_bits_Reader_At
  simp only [onPtr_some]
  exact ldI_of (x := (at_ : Int)) (h.blk.cells 1 _ rfl) hK
theorem Back_spec {b : Nat} {K : World → Prop} (h : RdrM w g s bs at_) (hb : b ≤ at_) (hK : ∀ w', RdrM w' g s bs b → Chg (fun k => k = g) w w' → K w') : c_bits_Reader_Back (some ⟨g, 0, none⟩) b w K := by
  refine call_bits_Reader_Back _ _ ?_
  unfold sh_bits_Reader_Back
  simp only [onPtr_some]
  refine ldI_of (x := (at_ : Int)) (h.blk.cells 1 _ rfl) ?_
  have e : (if (at_ : Int) < (if (0 : Int) > (b : Int) then (0 : Int) else (b : Int)) then (at_ : Int) else (if (0 : Int) > (b : Int) then (0 : Int) else (b : Int))) = (b : Int) := by
    rw [if_neg (show ¬ (0 : Int) > (b : Int) by omega), if_neg (by omega)]
  rw [e, add_mk]
  refine stK_blk h.blk (by simp) fun w2 hb2 hg2 hs2 => ?_
  exact hK w2 (h.move hb2 hg2 (Nat.le_trans hb h.le)) (Chg.gg hg2)

theorem Align_spec {K : Int → World → Prop} (h : RdrM w g s bs at_) (hK : ∀ v w', RdrM w' g s bs (up8 at_) → Chg (fun k => k = g) w w' → K v w') : c_bits_Reader_Align (some ⟨g, 0, none⟩) w K := by
  refine call_bits_Reader_Align _ ?_
  unfold sh_bits_Reader_Align
  simp only [onPtr_some, and7]
  have h1 := h.le
  have h2 := h.sm
  refine ldI_of (x := (at_ : Int)) (h.blk.cells 1 _ rfl) ?_
  refine ldI_of (x := (at_ : Int)) (h.blk.cells 1 _ rfl) ?_
  have e : IntKind.i64.wrap ((at_ : Int) + (IntKind.i64.wrap (0 - (at_ : Int))) % 8) = ((up8 at_ : Nat) : Int) := by
    unfold up8
    rw [wrap64_id (x := 0 - (at_ : Int)) (by omega), wrap64_id (by omega)]
    omega
  rw [e, add_mk]
  refine stK_blk h.blk (by simp) fun w2 hb2 hg2 hs2 => ?_
  exact hK _ w2 (h.move hb2 hg2 (by unfold up8; omega)) (Chg.gg hg2)

theorem NewReader_spec {b : Slc} {K : Option Addr → World → Prop} (h : Rd E_uint8 w b bs) (hl : bs.length ≤ 900000000000) (hK : ∀ g s w', w.heap.size ≤ g → (∀ k, s.blk = some k → w.heap.size ≤ k ∧ k < w'.heap.size) → RdrM w' g s bs 0 → Below w.heap.size w w' → K (some ⟨g, 0, none⟩) w') : c_bits_NewReader b w K := by
  refine call_bits_NewReader _ ?_
  unfold sh_bits_NewReader
  refine CloneB_spec h hl fun r w1 ho hB => ?_
  refine nw_blk fun w2 hb2 hB2 hs2 => ?_
  refine hK _ r w2 hB.size (fun k hk => by have := ho.lt k hk; omega) ⟨hb2, (ho.ext hB2).rd, by omega, by omega, fun k hk e => ?_⟩ (hB.trans (hB2.mono hB.size))
  have := (ho.lt k hk).2
  omega
end

end Go.Proofs.Yteffnkpplhcomaa
