/- The program's writer of bits: it holds a number. -/
import Derived.Test.YteffnkpplhcomaaB13
namespace Go.Proofs.Yteffnkpplhcomaa
open Go.Vc Go.RowKit
set_option maxRecDepth 400000

def wrCells (s : Slc) (v c : Nat) : List Value := [.slice s.a s.n s.c, .int .u64 (v : Int), .int .i64 (c : Int)]
/-- The writer in the midst of its work: xs is out, v of c bits is held. -/
structure WrH (w : World) (base g : Nat) (s : Slc) (xs : List UInt8) (v c : Nat) : Prop where
  blk : Blk w g ty_bits_Writer (wrCells s v c)
  own : Own E_uint8 w base s xs
  hg : base ≤ g
  lt : v < 2 ^ c
/-- The writer between two writes: n bits, as a number V. -/
def WrM (w : World) (base g V n : Nat) : Prop := ∃ s xs v c, WrH w base g s xs v c ∧ c < 8 ∧ V = le xs + 256 ^ xs.length * v ∧ n = 8 * xs.length + c

section
variable {w w' : World} {base g V n : Nat}
theorem WrH.ne {s : Slc} {xs : List UInt8} {v c : Nat} (h : WrH w base g s xs v c) : ∀ k, s.blk = some k → k ≠ g := fun k hk => by
  obtain ⟨cs, hcs⟩ := h.own.blk_t hk
  exact hcs.ne_t h.blk (by decide)
theorem WrM.hg (h : WrM w base g V n) : base ≤ g := by
  obtain ⟨s, xs, v, c, h, _⟩ := h
  exact h.hg
theorem WrM.ext (h : WrM w base g V n) (hB : Below w.heap.size w w') : WrM w' base g V n := by
  obtain ⟨s, xs, v, c, h, h1⟩ := h
  exact ⟨s, xs, v, c, ⟨h.blk.ext hB, h.own.ext hB, h.hg, h.lt⟩, h1⟩
theorem WrM.lt (h : WrM w base g V n) : V < 2 ^ n := by
  obtain ⟨s, xs, v, c, h, _, rfl, rfl⟩ := h
  have h1 := le_lt xs
  have h2 := h.lt
  rw [Nat.pow_add, ← pow256]
  have : 256 ^ xs.length * v + 256 ^ xs.length ≤ 256 ^ xs.length * 2 ^ c := by
    rw [← Nat.mul_succ]; exact Nat.mul_le_mul_left _ h2
  omega
theorem NewWriter_spec {K : Option Addr → World → Prop} (hK : ∀ g w', w.heap.size ≤ g → WrM w' w.heap.size g 0 0 → Below w.heap.size w w' → K (some ⟨g, 0, none⟩) w') : c_bits_NewWriter w K := by
  refine call_bits_NewWriter ?_
  unfold sh_bits_NewWriter
  refine nw_blk fun w1 hb1 hB1 hs1 => ?_
  exact hK _ w1 (Nat.le_refl _) ⟨nilS, [], 0, 0, ⟨hb1, Own.nil _ _ _, Nat.le_refl _, by decide⟩, by decide, rfl, rfl⟩ hB1

theorem WBits_spec {x k : Nat} {K : World → Prop} (h : WrM w base g V n) (hbase : base ≤ w.heap.size) (hx : x < 2 ^ 32) (hk1 : 1 ≤ k) (hk : k ≤ 32) (hn : n ≤ 800000000000)
    (hK : ∀ w', WrM w' base g (V + 2 ^ n * (x % 2 ^ k)) (n + k) → Below base w w' → K w') : c_bits_Writer_Bits (some ⟨g, 0, none⟩) (x : Int) (k : Int) w K := by
  refine call_bits_Writer_Bits _ _ _ ?_
  unfold sh_bits_Writer_Bits
  simp only [onPtr_some]
  refine joinP_of fun J hJ => ?_
  refine cond_f (decide_eq_false (by omega)) (cond_f (decide_eq_false (by omega)) (hJ _ _ ?_))
  obtain ⟨s, xs, v, c, h0, hc8, hV, hn8⟩ := h
  have hBd : Below w.heap.size w w.drew := (Below.refl _ w).drew
  have hb := h0.blk.ext hBd
  refine ldI_of (x := (v : Int)) (hb.cells 1 _ rfl) ⟨Int.natCast_nonneg _, ?_⟩
  refine ldI_of (x := (c : Int)) (hb.cells 2 _ rfl) ⟨Int.natCast_nonneg _, ?_⟩
  have hv := h0.lt
  have hv8 : v < 2 ^ 8 := Nat.lt_of_lt_of_le hv (Nat.pow_le_pow_right (by decide) (by omega))
  have hxk : x % 2 ^ k < 2 ^ k := Nat.mod_lt _ (Nat.pow_pos (by decide))
  have hk32 : 2 ^ k ≤ 2 ^ 32 := Nat.pow_le_pow_right (by decide) hk
  have hc256 : 2 ^ c ≤ 2 ^ 8 := Nat.pow_le_pow_right (by decide) (by omega)
  have hpos : 0 < 2 ^ k := Nat.pow_pos (by decide)
  have hprod : x % 2 ^ k * 2 ^ c < 2 ^ 40 := by
    have h1 : x % 2 ^ k * 2 ^ c ≤ x % 2 ^ k * 2 ^ 8 := Nat.mul_le_mul_left _ hc256
    omega
  have hval : bitsR .or .u64 (v : Int) (IntKind.u64.wrap ((bitsR .and .u64 (IntKind.u64.wrap (x : Int)) (IntKind.u64.wrap ((IntKind.u64.wrap ((1 : Int) * 2 ^ (min ((k : Int)).toNat IntKind.u64.bits))) - (1 : Int)))) * 2 ^ (min ((c : Int)).toNat IntKind.u64.bits))) = ((v + 2 ^ c * (x % 2 ^ k) : Nat) : Int) := by
    have e1 : min ((k : Int)).toNat IntKind.u64.bits = k := by rw [Int.toNat_natCast]; show min k 64 = k; omega
    have e2 : min ((c : Int)).toNat IntKind.u64.bits = c := by rw [Int.toNat_natCast]; show min c 64 = c; omega
    rw [e1, e2, wrap_nat .u64 (by show x < 2 ^ 64; omega), show (1 : Int) * 2 ^ k = ((2 ^ k : Nat) : Int) by simp, wrap_nat .u64 (by show 2 ^ k < 2 ^ 64; omega)]
    rw [show ((2 ^ k : Nat) : Int) - 1 = ((2 ^ k - 1 : Nat) : Int) by omega, wrap_nat .u64 (by show 2 ^ k - 1 < 2 ^ 64; omega)]
    rw [bits_and .u64 (by show x < 2 ^ 64; omega) (by show 2 ^ k - 1 < 2 ^ 64; omega), Nat.and_two_pow_sub_one_eq_mod, mul_pow_nat, wrap_nat .u64 (by show _ < 2 ^ 64; omega)]
    rw [bits_or .u64 (by show _ < 2 ^ 64; omega) (by show _ < 2 ^ 64; omega), Nat.mul_comm, add_or hv]
  rw [hval, add_mk]
  refine stK_blk hb (by simp [wrCells]) fun w1 hb1 hg1 hs1 => ?_
  have ho1 := (h0.own.ext hBd).chg (Chg.gg hg1) h0.ne
  refine ldI_of (x := (c : Int)) (hb1.cells 2 _ rfl) ?_
  rw [wrap64_id (by omega), show (c : Int) + (k : Int) = ((c + k : Nat) : Int) from rfl]
  try rw [add_mk]
  refine stK_blk hb1 (by simp [wrCells, putL]) fun w2 hb2 hg2 hs2 => ?_
  have hb2 : Blk w2 g ty_bits_Writer (wrCells s (v + 2 ^ c * (x % 2 ^ k)) (c + k)) := hb2
  have hB2 : Below base w w2 := (hBd.mono hbase).trans (((Chg.gg hg1).below hbase fun i hi e => by have := h0.hg; omega).trans ((Chg.gg hg2).below (by have := hg1.size; exact Nat.le_trans hbase this) fun i hi e => by have := h0.hg; omega))
  have h2 : WrH w2 base g s xs (v + 2 ^ c * (x % 2 ^ k)) (c + k) := by
    refine ⟨hb2, ho1.chg (Chg.gg hg2) h0.ne, h0.hg, ?_⟩
    rw [Nat.pow_add]
    have : 2 ^ c * (x % 2 ^ k) + 2 ^ c ≤ 2 ^ c * 2 ^ k := by rw [← Nat.mul_succ]; exact Nat.mul_le_mul_left _ hxk
    omega
  refine loopP_rule_w (fun m (_ : Unit) w3 => ∃ s1 xs1 v1 c1, m = c1 ∧ c1 ≤ 39 ∧ WrH w3 base g s1 xs1 v1 c1 ∧ V + 2 ^ n * (x % 2 ^ k) = le xs1 + 256 ^ xs1.length * v1 ∧ n + k = 8 * xs1.length + c1 ∧ Below base w w3) (c + k) ⟨s, xs, _, _, rfl, by omega, h2, ?_, by omega, hB2⟩ ?_
  · rw [hV, hn8, Nat.pow_add, ← pow256, Nat.mul_add, ← Nat.mul_assoc]; omega
  rintro m _ w3 ⟨s1, xs1, v1, c1, rfl, hc39, h3, hV3, hn3, hB3⟩ I hI
  have hs3 := hB3.size
  refine ldI_of (x := (m : Int)) (h3.blk.cells 2 _ rfl) ?_
  refine cond_of (fun hge => ?_) (fun hlt => ?_)
  · have hge : 8 ≤ m := by have := of_decide_eq_true hge; omega
    have hBd3 : Below w3.heap.size w3 w3.drew := (Below.refl _ w3).drew
    have hb3 := h3.blk.ext hBd3
    have ho3 := h3.own.ext hBd3
    refine ldSl_of (x := s1) (hb3.cells 0 _ rfl) ?_
    refine ldI_of (x := (v1 : Int)) (hb3.cells 1 _ rfl) ?_
    have hwv : IntKind.u8.wrap (v1 : Int) = (((UInt8.ofNat v1).toNat : Nat) : Int) := by
      rw [wrap8_u8]
      show (((UInt8.ofNat ((v1 : Int) % 256).toNat).toNat : Nat) : Int) = _
      rw [UInt8.toNat_ofNat', UInt8.toNat_ofNat']
      omega
    have hbyte : (UInt8.ofNat v1).toNat = v1 % 256 := by rw [UInt8.toNat_ofNat']
    rw [hwv]
    refine nw_blk fun w4 hb4 hB4 hs4 => ?_
    have hb4' := hb3.ext hB4
    refine ⟨hb4'.cells 0 _ rfl, ?_⟩
    have hr : Rd E_uint8 w4 ⟨some ⟨w3.drew.heap.size, 0, none⟩, 1, 1⟩ [UInt8.ofNat v1] := rd_one (E := E_uint8) hb4 rfl
    have hxl : xs1.length ≤ 900000000000 := by omega
    refine apB (ho3.ext hB4) hr (by have : w3.drew.heap.size = w3.heap.size := rfl; omega) (by simp; omega) fun r w5 ho5 hc5 hq => ?_
    have hb5 := hb4'.chg hc5 fun e => h3.ne _ e rfl
    try rw [add_mk]
    refine stK_blk hb5 (by simp [wrCells]) fun w6 hb6 hg6 hs6 => ?_
    have hb6 : Blk w6 g ty_bits_Writer (wrCells r v1 m) := hb6
    have hne5 : ∀ j, r.blk = some j → j ≠ g := fun j hj => by
      obtain ⟨cs, hcs⟩ := ho5.blk_t hj
      exact hcs.ne_t hb5 (by decide)
    have ho6 := ho5.chg (Chg.gg hg6) hne5
    refine ldI_of (x := (v1 : Int)) (hb6.cells 1 _ rfl) ⟨by decide, ?_⟩
    rw [show min ((8 : Int)).toNat IntKind.u64.bits = 8 by decide, fdiv_nat]
    try rw [add_mk]
    refine stK_blk hb6 (by simp [wrCells]) fun w7 hb7 hg7 hs7 => ?_
    have hb7 : Blk w7 g ty_bits_Writer (wrCells r (v1 / 2 ^ 8) m) := hb7
    have ho7 := ho6.chg (Chg.gg hg7) hne5
    refine ldI_of (x := (m : Int)) (hb7.cells 2 _ rfl) ?_
    rw [wrap64_id (by omega), show (m : Int) - 8 = ((m - 8 : Nat) : Int) by omega]
    try rw [add_mk]
    refine stK_blk hb7 (by simp [wrCells]) fun w8 hb8 hg8 hs8 => ?_
    have hb8 : Blk w8 g ty_bits_Writer (wrCells r (v1 / 2 ^ 8) (m - 8)) := hb8
    have ho8 := ho7.chg (Chg.gg hg8) hne5
    have hgb := h3.hg
    have own3 : ∀ i, i < base → ¬ s1.blk = some i := fun i hi e => by have := (h3.own.lt i e).1; omega
    have b4 : base ≤ w4.heap.size := by have : w3.drew.heap.size = w3.heap.size := rfl; omega
    have b5 : base ≤ w5.heap.size := Nat.le_trans b4 hc5.size
    have hB38 : Below base w3 w8 := ((hBd3.mono (by omega)).trans (hB4.mono (by have : w3.drew.heap.size = w3.heap.size := rfl; omega))).trans ((hc5.below b4 own3).trans (((Chg.gg hg6).below b5 fun i hi e => by omega).trans (((Chg.gg hg7).below (by omega) fun i hi e => by omega).trans ((Chg.gg hg8).below (by omega) fun i hi e => by omega))))
    have hv1 := h3.lt
    refine hI (m - 8) () w8 ⟨r, xs1 ++ [UInt8.ofNat v1], v1 / 2 ^ 8, m - 8, rfl, by omega, ⟨hb8, ho8, hgb, ?_⟩, ?_, by simp; omega, hB3.trans hB38⟩ (by omega)
    · rw [Nat.div_lt_iff_lt_mul (by decide), ← Nat.pow_add, show m - 8 + 8 = m by omega]; exact hv1
    · rw [hV3, le_append, List.length_append, Nat.pow_add]
      simp only [le, List.length_cons, List.length_nil, hbyte]
      rw [Nat.add_assoc, Nat.mul_assoc, ← Nat.mul_add]
      congr 2
      omega
  · have hlt : m < 8 := by have := of_decide_eq_false hlt; omega
    exact hK w3 ⟨s1, xs1, v1, m, h3, hlt, hV3, hn3⟩ hB3

theorem WDone_spec {K : Slc → World → Prop} (h : WrM w base g V n) (hn : n ≤ 800000000000)
    (hK : ∀ r ys w', Own E_uint8 w' w.heap.size r ys → le ys = V → ys.length = (n + 7) / 8 → Below w.heap.size w w' → K r w') : c_bits_Writer_Done (some ⟨g, 0, none⟩) w K := by
  refine call_bits_Writer_Done _ ?_
  unfold sh_bits_Writer_Done
  simp only [onPtr_some]
  obtain ⟨s, xs, v, c, h0, hc8, hV, hn8⟩ := h
  refine ldSl_of (x := s) (h0.blk.cells 0 _ rfl) ?_
  refine CloneB_spec h0.own.rd (by omega) fun r w1 ho1 hB1 => ?_
  have hs1 := hB1.size
  have hb1 := h0.blk.ext hB1
  refine ldI_of (x := (c : Int)) (hb1.cells 2 _ rfl) ?_
  have hv := h0.lt
  refine cond_of (fun hp => ?_) (fun hz => ?_)
  · have hp : 0 < c := by have := of_decide_eq_true hp; omega
    refine ldI_of (x := (v : Int)) (hb1.cells 1 _ rfl) ?_
    have hv8 : v < 2 ^ 8 := Nat.lt_of_lt_of_le hv (Nat.pow_le_pow_right (by decide) (by omega))
    have hbyte : (UInt8.ofNat v).toNat = v := by rw [UInt8.toNat_ofNat']; omega
    refine apB1 (c := UInt8.ofNat v) (by rw [hbyte, wrap_nat .u8 (by show v < 2 ^ 8; omega)]) ho1 hs1 (by omega) fun q w2 ho2 hc2 hq => ?_
    refine hK q _ w2 ho2 ?_ (by simp; omega) (hB1.trans (hc2.below hs1 fun i hi e => by have := (ho1.lt i e).1; omega))
    rw [le_append, hV]
    simp only [le, hbyte, Nat.mul_zero, Nat.add_zero]
  · have hz : c = 0 := by have := of_decide_eq_false hz; omega
    subst hz
    have : v = 0 := by omega
    subst this
    exact hK r xs w1 ho1 (by rw [hV]; omega) (by omega) hB1
end

end Go.Proofs.Yteffnkpplhcomaa
