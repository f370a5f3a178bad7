/- The program's Fixed: a stream of one block of the fixed code. -/
import Derived.Test.YteffnkpplhcomaaB14
namespace Go.Proofs.Yteffnkpplhcomaa
open Go.Vc Go.RowKit
set_option maxRecDepth 400000

/-- The length and the bits of a symbol of the fixed code, its first bit lowest. -/
def kN (y : Nat) : Nat := (fixedL[y]?.getD 0).toNat
def symN (y : Nat) : Nat := revN (codeK fixedL (kN y) y) (kN y)
theorem kN_get {y : Nat} (h : y < 288) : ∃ x : UInt8, fixedL[y]? = some x ∧ x.toNat = kN y ∧ 7 ≤ kN y ∧ kN y ≤ 9 := by
  unfold kN
  rw [fixedL_get y h]
  refine ⟨_, rfl, rfl, ?_⟩
  show 7 ≤ (if y < 144 then (8 : UInt8) else if y < 256 then 9 else if y < 280 then 7 else 8).toNat ∧ (if y < 144 then (8 : UInt8) else if y < 256 then 9 else if y < 280 then 7 else 8).toNat ≤ 9
  repeat' split
  all_goals decide
def putN (p : Nat × Nat) (y : Nat) : Nat × Nat := (p.1 + 2 ^ p.2 * symN y, p.2 + kN y)
def bytesN (bs : List UInt8) : Nat × Nat := bs.foldl (fun p b => putN p b.toNat) (3, 3)
def fixedN (bs : List UInt8) : Nat × Nat := putN (bytesN bs) 256
theorem bytesN_snoc (bs : List UInt8) (b : UInt8) : bytesN (bs ++ [b]) = putN (bytesN bs) b.toNat := by
  unfold bytesN
  rw [List.foldl_append]
  rfl
theorem foldN_le (bs : List UInt8) : ∀ p, (bs.foldl (fun p b => putN p b.toNat) p).2 ≤ p.2 + 9 * bs.length := by
  induction bs with
  | nil => intro p; exact Nat.le_refl _
  | cons b r ih =>
    intro p
    have h1 := ih (putN p b.toNat)
    obtain ⟨x, _, _, _, h2⟩ := kN_get (y := b.toNat) (by have := b.toNat_lt; omega)
    rw [List.foldl_cons, List.length_cons]
    have : (putN p b.toNat).2 = p.2 + kN b.toNat := rfl
    omega
theorem bytesN_le (bs : List UInt8) : (bytesN bs).2 ≤ 3 + 9 * bs.length := foldN_le bs (3, 3)

section
variable {w : World}
theorem one_sym {base g base2 : Nat} {f : TF} {p : Nat × Nat} {y : Nat} {w : World} {K : World → Prop} (ht : TabM w base2 f fixedL) (h : WrM w base g p.1 p.2) (hy : y < 288) (hbase : base ≤ w.heap.size) (hn : p.2 ≤ 700000000000)
    (hK : ∀ w', WrM w' base g (putN p y).1 (putN p y).2 → Below base w w' → K w') : c_huff_Table_Code (some ⟨f.g, 0, none⟩) (y : Int) w fun t32 t32_1 w6 => c_bits_Writer_Bits (some ⟨g, 0, none⟩) t32 t32_1 w6 fun w7 => K w7 := by
  obtain ⟨x, hx, hxk, hk7, hk9⟩ := kN_get hy
  refine Code_spec ht hx (by omega) ?_
  rw [hxk]
  have hlt := revN_lt (codeK fixedL (kN y) y) (kN y)
  have h32 : 2 ^ kN y ≤ 2 ^ 9 := Nat.pow_le_pow_right (by decide) hk9
  have hBd : Below w.heap.size w w.drew := (Below.refl _ w).drew
  refine WBits_spec (h.ext hBd) hbase (by omega) (by omega) (by omega) (by omega) fun w' h' hB => ?_
  rw [Nat.mod_eq_of_lt hlt] at h'
  exact hK w' h' ((hBd.mono hbase).trans hB)
theorem Fixed_spec {b : Slc} {bs : List UInt8} {K : Slc → World → Prop} (hb : Rd E_uint8 w b bs) (hl : bs.length ≤ 1000000000)
    (hK : ∀ r ys w', Own E_uint8 w' w.heap.size r ys → le ys = (fixedN bs).1 → ys.length = ((fixedN bs).2 + 7) / 8 → Below w.heap.size w w' → K r w') : c_inflate_Fixed b w K := by
  refine call_inflate_Fixed _ ?_
  unfold sh_inflate_Fixed
  rw [hb.n]
  refine HFixed_spec fun t6 t7 w1 ho1 hB1 => ?_
  obtain ⟨k1, k2, _, _⟩ := fixed_ok
  refine New_spec ho1.rd (fun h => absurd h k1) (fun _ h => absurd h k2) fun _ _ f w2 hf hB2 => ?_
  have hs1 := hB1.size
  have hs2 := hB2.size
  refine NewWriter_spec fun g w3 hg h3 hB3 => ?_
  have hs3 := hB3.size
  refine WBits_spec (x := 3) (k := 3) h3 hs3 (by decide) (by decide) (by decide) (by decide) fun w4 h4 hB4 => ?_
  have hf3 := hf.ext hB3
  have hft : ∀ k, tabS f k → k < w2.heap.size := fun k hk => (hf.below k hk).2
  have tab : ∀ {w'}, Below w2.heap.size w3 w' → TabM w' w1.heap.size f fixedL := fun hB => hf3.chg (Chg.of_below hB) fun k hk hle => by have := hft k hk; omega
  have hB13 : Below w.heap.size w w3 := hB1.trans ((hB2.mono hs1).trans (hB3.mono (Nat.le_trans hs1 hs2)))
  have h4 : WrM w4 w2.heap.size g (bytesN []).1 (bytesN []).2 := h4
  have hb3 := hb.ext hB13
  have row : ∀ {w'}, Below w2.heap.size w3 w' → Rd E_uint8 w' b bs := fun hB => hb.ext (hB13.trans (hB.mono (Nat.le_trans hs1 hs2)))
  refine loopP_rule_w (fun m (s : Int × Unit) w5 => ∃ i : Nat, s.1 = (i : Int) ∧ i ≤ bs.length ∧ m = bs.length - i ∧ WrM w5 w2.heap.size g (bytesN (bs.take i)).1 (bytesN (bs.take i)).2 ∧ Below w2.heap.size w3 w5) bs.length ⟨0, rfl, Nat.zero_le _, by omega, h4, hB4⟩ ?_
  rintro m ⟨s, _⟩ w5 ⟨i, rfl, hi, rfl, h5, hB5⟩ I hI
  have hs5 : w2.heap.size ≤ w5.heap.size := Nat.le_trans hs3 hB5.size
  have hle := bytesN_le (bs.take i)
  rw [List.length_take] at hle
  dsimp only
  refine cond_of (fun hlt => ?_) (fun hge => ?_)
  · have hlt : i < bs.length := by have := of_decide_eq_true hlt; omega
    refine (row hB5).ix (i := (i : Int)) rfl (by omega) (by omega) fun hc => ?_
    refine ldB8 (b := bs[i]) hc ?_
    have hbl := (bs[i]).toNat_lt
    rw [wrap_nat .i64 (by show _ < 2 ^ 63; omega)]
    refine one_sym (p := bytesN (bs.take i)) (tab hB5) h5 (by omega) hs5 (by omega) fun w6 h6 hB6 => ?_
    rw [wrap64_id (by omega), show (i : Int) + 1 = ((i + 1 : Nat) : Int) from rfl]
    refine hI (bs.length - (i + 1)) (((i + 1 : Nat) : Int), ()) w6 ⟨i + 1, rfl, by omega, rfl, ?_, hB5.trans hB6⟩ (by omega)
    rw [List.take_succ_eq_append_getElem hlt, bytesN_snoc]
    exact h6
  · have hge : i = bs.length := by have := of_decide_eq_false hge; omega
    subst hge
    rw [List.take_length] at h5 hle
    refine one_sym (p := bytesN bs) (y := 256) (tab hB5) h5 (by decide) hs5 (by omega) fun w6 h6 hB6 => ?_
    have hk := kN_get (y := 256) (by decide)
    obtain ⟨_, _, _, _, hk9⟩ := hk
    have h6 : WrM w6 w2.heap.size g (fixedN bs).1 (fixedN bs).2 := h6
    have e2 : (fixedN bs).2 = (bytesN bs).2 + kN 256 := rfl
    have hs6 : w2.heap.size ≤ w6.heap.size := Nat.le_trans hs5 hB6.size
    refine WDone_spec h6 (by omega) fun r ys w7 ho hle7 hlen hB7 => ?_
    refine hK r ys w7 (ho.base (by omega)) hle7 hlen (hB13.trans (((hB5.trans hB6).mono (Nat.le_trans hs1 hs2)).trans (hB7.mono (by omega))))
end

end Go.Proofs.Yteffnkpplhcomaa
