/- The program's Store: a stream of stored blocks. -/
import Derived.Test.YteffnkpplhcomaaB15
namespace Go.Proofs.Yteffnkpplhcomaa
open Go.Vc Go.RowKit
set_option maxRecDepth 400000

/-- The head of a stored block of n bytes. -/
def headS (last n : Nat) : List UInt8 := [UInt8.ofNat last, UInt8.ofNat (n % 256), UInt8.ofNat (n / 256), UInt8.ofNat (255 - n % 256), UInt8.ofNat (255 - n / 256)]
def storeL (bs : List UInt8) : List UInt8 :=
  if h : bs.length ≤ 65535 then headS 1 bs.length ++ bs else headS 0 65535 ++ bs.take 65535 ++ storeL (bs.drop 65535)
termination_by bs.length
decreasing_by simp; omega
theorem storeL_length (m : Nat) : ∀ bs : List UInt8, bs.length ≤ m → (storeL bs).length ≤ 6 * bs.length + 5 := by
  induction m with
  | zero =>
    intro bs h
    rw [storeL, dif_pos (by omega)]
    simp [headS]
    omega
  | succ m ih =>
    intro bs h
    rw [storeL]
    split
    · simp [headS]; omega
    · next hn =>
      have := ih (bs.drop 65535) (by simp; omega)
      rw [List.length_drop] at this
      simp only [headS, List.length_append, List.length_cons, List.length_nil, List.length_take]
      omega
theorem xor255 : ∀ x : Nat, x < 256 → 255 ^^^ x = 255 - x := by decide +kernel

section
variable {w : World}
theorem Store_spec {b : Slc} {bs : List UInt8} {K : Slc → World → Prop} (hb : Rd E_uint8 w b bs) (hl : bs.length ≤ 1000000000)
    (hK : ∀ r w', Own E_uint8 w' w.heap.size r (storeL bs) → Below w.heap.size w w' → K r w') : c_inflate_Store b w K := by
  refine call_inflate_Store _ ?_
  unfold sh_inflate_Store
  have hsl := storeL_length _ bs (Nat.le_refl _)
  refine loopP_rule_w (fun m (s : Slc × Slc × Unit) w1 => ∃ rest done, m = rest.length ∧ rest.length ≤ bs.length ∧ storeL bs = done ++ storeL rest ∧ Rd E_uint8 w s.1 rest ∧ Own E_uint8 w1 w.heap.size s.2.1 done ∧ Below w.heap.size w w1) bs.length ⟨bs, [], rfl, Nat.le_refl _, rfl, hb, Own.nil _ _ _, Below.refl _ _⟩ ?_
  rintro m ⟨s, t, _⟩ w1 ⟨rest, done, rfl, hrl, hst, hr, ho, hB⟩ I hI
  dsimp only at *
  rw [hr.n]
  have hs1 := hB.size
  have hdl : done.length + (storeL rest).length ≤ 6 * bs.length + 5 := by
    rw [hst, List.length_append] at hsl; exact hsl
  obtain ⟨n, hn⟩ : ∃ n : Nat, n = min 65535 rest.length := ⟨_, rfl⟩
  have en : (if (65535 : Int) < ((rest.length : Nat) : Int) then (65535 : Int) else ((rest.length : Nat) : Int)) = (n : Int) := by
    split <;> omega
  rw [en]
  refine joinP_of fun J hJ => ?_
  -- one block
  have go : ∀ lastN : Nat, (lastN = 1 ∧ n = rest.length ∨ lastN = 0 ∧ n = 65535 ∧ 65535 < rest.length) → J ((lastN : Int), ()) w1 := fun lastN hlast => hJ _ _ (by
    clear hJ
    dsimp only
    refine ⟨by decide, by decide, ?_⟩
    have w1b : IntKind.u8.wrap (n : Int) = (((UInt8.ofNat (n % 256)).toNat : Nat) : Int) := by
      rw [wrap8_u8]
      show (((UInt8.ofNat ((n : Int) % 256).toNat).toNat : Nat) : Int) = _
      rw [UInt8.toNat_ofNat', UInt8.toNat_ofNat']
      omega
    have w2b : IntKind.u8.wrap ((n : Int).fdiv (2 ^ (min ((8 : Int)).toNat IntKind.i64.bits))) = (((UInt8.ofNat (n / 256)).toNat : Nat) : Int) := by
      rw [show min ((8 : Int)).toNat IntKind.i64.bits = 8 by decide, fdiv_nat, wrap8_u8]
      show (((UInt8.ofNat (((n / 2 ^ 8 : Nat) : Int) % 256).toNat).toNat : Nat) : Int) = _
      rw [UInt8.toNat_ofNat', UInt8.toNat_ofNat']
      omega
    have c1 : (UInt8.ofNat (n % 256)).toNat = n % 256 := by rw [UInt8.toNat_ofNat']; omega
    have c2 : (UInt8.ofNat (n / 256)).toNat = n / 256 := by rw [UInt8.toNat_ofNat']; omega
    have x1 : bitsR .xor .u8 (255) (((UInt8.ofNat (n % 256)).toNat : Nat) : Int) = (((UInt8.ofNat (255 - n % 256)).toNat : Nat) : Int) := by
      rw [show (255 : Int) = ((255 : Nat) : Int) from rfl, bits_xor .u8 (by decide) (by show _ < 2 ^ 8; omega), c1, xor255 _ (by omega), UInt8.toNat_ofNat']
      omega
    have x2 : bitsR .xor .u8 (255) (((UInt8.ofNat (n / 256)).toNat : Nat) : Int) = (((UInt8.ofNat (255 - n / 256)).toNat : Nat) : Int) := by
      rw [show (255 : Int) = ((255 : Nat) : Int) from rfl, bits_xor .u8 (by decide) (by show _ < 2 ^ 8; omega), c2, xor255 _ (by omega), UInt8.toNat_ofNat']
      omega
    have l1 : ((lastN : Nat) : Int) = (((UInt8.ofNat lastN).toNat : Nat) : Int) := by rw [UInt8.toNat_ofNat']; omega
    rw [w2b, w1b, x1, x2]
    conv => arg 2; rw [l1]
    refine nw_blk fun w2 hb2 hB2 hs2 => ?_
    have hs2' : w1.heap.size ≤ w2.heap.size := hB2.size
    have hhd : Rd E_uint8 w2 ⟨some ⟨w1.heap.size, 0, none⟩, 5, 5⟩ (headS lastN n) := rd_lits (E := E_uint8) (ys := headS lastN n) hb2 (by simp [maxLen, headS]) rfl
    have hsr : 5 + n ≤ (storeL rest).length := by
      rw [storeL]
      split
      · simp [headS]; omega
      · simp [headS]; omega
    have h5 : (headS lastN n).length = 5 := rfl
    refine apB (ho.ext hB2) hhd (by omega) (by omega) fun r3 w3 ho3 hc3 hq3 => ?_
    have hs3 := hc3.size
    have own1 : ∀ i, i < w.heap.size → ¬ t.blk = some i := fun i hi e => by have := (ho.lt i e).1; omega
    have hB3 : Below w.heap.size w w3 := (hB.trans (hB2.mono hs1)).trans (hc3.below (by omega) own1)
    refine hr.slK (l := 0) (m := n) rfl (.inl ⟨rfl, rfl⟩) (.inr rfl) (by omega) (by omega) fun hp => ?_
    rw [List.drop_zero] at hp
    have htl : (rest.take n).length = n := by rw [List.length_take]; omega
    have h5' : (done ++ headS lastN n).length = done.length + 5 := by rw [List.length_append, h5]
    refine apB ho3 (hp.ext hB3) (by omega) (by omega) fun r4 w4 ho4 hc4 hq4 => ?_
    have hs4 := hc4.size
    have own3 : ∀ i, i < w.heap.size → ¬ r3.blk = some i := fun i hi e => by have := (ho3.lt i e).1; omega
    have hB4 : Below w.heap.size w w4 := hB3.trans (hc4.below (by omega) own3)
    refine hr.slK (l := n) (m := rest.length) rfl (.inr rfl) (.inl ⟨rfl, rfl⟩) (by omega) (Nat.le_refl _) fun hp2 => ?_
    rw [List.take_length] at hp2
    refine cond_of (fun e1 => ?_) (fun e0 => ?_)
    · have e1 : lastN = 1 := by have := eq_of_beq e1; omega
      have hnr : n = rest.length := by rcases hlast with ⟨_, h⟩ | ⟨h, _⟩ <;> omega
      refine hK r4 w4 ?_ hB4
      have : storeL bs = done ++ headS lastN n ++ rest.take n := by
        rw [hst, storeL, dif_pos (by omega), e1, hnr, List.take_length, List.append_assoc]
      rw [this]
      exact ho4
    · have e0 : lastN ≠ 1 := by intro e; subst e; exact absurd rfl (beq_eq_false_iff_ne.1 e0)
      obtain ⟨hn65, hlong⟩ : n = 65535 ∧ 65535 < rest.length := by rcases hlast with ⟨h, _⟩ | ⟨_, h⟩; exact absurd h e0; exact h
      have hl0 : lastN = 0 := by rcases hlast with ⟨h, _⟩ | ⟨h, _⟩; exact absurd h e0; exact h
      refine hI (rest.length - n) _ w4 ⟨rest.drop n, done ++ headS lastN n ++ rest.take n, by rw [List.length_drop], by rw [List.length_drop]; omega, ?_, hp2, ho4, hB4⟩ (by omega)
      rw [hst]
      conv => lhs; rw [storeL, dif_neg (by omega)]
      rw [hl0, hn65, List.append_assoc, List.append_assoc, List.append_assoc])
  refine cond_of (fun e => ?_) (fun e => ?_)
  · have e : n = rest.length := by have := eq_of_beq e; omega
    exact go 1 (.inl ⟨rfl, e⟩)
  · have e : n ≠ rest.length := by have := beq_eq_false_iff_ne.1 e; omega
    exact go 0 (.inr ⟨rfl, by omega, by omega⟩)
end

end Go.Proofs.Yteffnkpplhcomaa
