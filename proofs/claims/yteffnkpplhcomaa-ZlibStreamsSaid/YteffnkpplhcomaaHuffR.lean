/- Codes that are read bit by bit, as the document does it. No program in sight. -/
import Derived.Test.YteffnkpplhcomaaHuffP
namespace Go.Vc

/-- A symbol has just this code of n bits. -/
def isCode (ls : List UInt8) (n c i : Nat) : Prop := n ≠ 0 ∧ ∃ x, ls[i]? = some x ∧ x.toNat = n ∧ codeK ls n i = c
theorem isCode_sym {ls : List UInt8} {n c i : Nat} (h : isCode ls n c i) (hn : n ≤ 15) : firstK ls n ≤ c ∧ c < firstK ls n + cntK ls n ∧ (sortedK ls 15).getD (offK ls n + (c - firstK ls n)) 0 = i := by
  obtain ⟨h0, x, hx, hk, rfl⟩ := h
  have hi : i < ls.length := (List.getElem?_eq_some_iff.1 hx).1
  have h1 := symsK_get ls n ls.length (Nat.le_refl _) i hi x hx h0 hk
  have h2 := (List.getElem?_eq_some_iff.1 h1).1
  rw [symsK_length ls n _ (Nat.le_refl _), List.take_length] at h2
  unfold codeK
  refine ⟨by omega, by omega, ?_⟩
  rw [Nat.add_sub_cancel_left, List.getD_eq_getElem?_getD, sortedK_get ls (by omega) hn h2, h1]
  rfl
theorem isCode_of {ls : List UInt8} {n c : Nat} (h1 : firstK ls n ≤ c) (h2 : c < firstK ls n + cntK ls n) : ∃ i, isCode ls n c i := by
  have hl := symsK_length ls n ls.length (Nat.le_refl _)
  rw [List.take_length] at hl
  have hj : c - firstK ls n < (symsK ls n ls.length).length := by omega
  obtain ⟨i, hi⟩ : ∃ i, (symsK ls n ls.length)[c - firstK ls n]? = some i := ⟨_, List.getElem?_eq_getElem hj⟩
  obtain ⟨h0, _, ⟨x, hx, hk⟩, hc⟩ := symsK_mem ls n ls.length (Nat.le_refl _) _ _ hi
  exact ⟨i, h0, x, hx, hk, by unfold codeK; omega⟩

def goodTab (ls : List UInt8) : Prop := (∀ x ∈ ls, x.toNat ≤ 15) ∧ (roomN ls = 32768 ∨ roomN ls = 0 ∨ (roomN ls = 16384 ∧ cntK ls 1 = 1))
theorem goodTab.room {ls : List UInt8} (h : goodTab ls) : roomN ls ≤ 32768 := by rcases h.2 with h | h | h <;> omega
theorem cnt_pos {ls : List UInt8} {x : UInt8} (hx : x ∈ ls) (h0 : 0 < x.toNat) : 0 < cntK ls x.toNat := by
  unfold cntK
  rw [if_neg (by omega)]
  exact List.countP_pos_iff.2 ⟨x, hx, by simp⟩
theorem dealt_pos {ls : List UInt8} {k : Nat} (hk : 0 < k) : dealt ls k = dealt ls (k - 1) + cntK ls k * 2 ^ (15 - k) := by
  obtain ⟨j, rfl⟩ : ∃ j, k = j + 1 := ⟨k - 1, by omega⟩
  rfl
theorem last_empty {ls : List UInt8} (h : goodTab ls) (h0 : roomN ls = 0) : lastK ls = 0 := by
  refine Nat.le_zero.1 (lastK_le fun x hx => ?_)
  rcases Nat.eq_zero_or_pos x.toNat with e | e
  · omega
  · have h1 := cnt_pos hx e
    have h2 := dealt_mono ls (h.1 x hx)
    rw [dealt_room, dealt_pos e] at h2
    have : 0 < cntK ls x.toNat * 2 ^ (15 - x.toNat) := Nat.mul_pos h1 (Nat.pow_pos (by decide))
    omega
theorem last_one {ls : List UInt8} (h : goodTab ls) (h0 : roomN ls = 16384) (h1 : cntK ls 1 = 1) : lastK ls ≤ 1 := by
  refine lastK_le fun x hx => ?_
  rcases Nat.lt_or_ge 1 x.toNat with e | e
  · have h2 := cnt_pos hx (by omega)
    have h3 := dealt_mono ls (h.1 x hx)
    have h4 : dealt ls 1 = 16384 := by rw [dealt, dealt, h1]
    have h5 := dealt_mono ls (show 1 ≤ x.toNat - 1 by omega)
    rw [dealt_room, dealt_pos (by omega)] at h3
    have : 0 < cntK ls x.toNat * 2 ^ (15 - x.toNat) := Nat.mul_pos h2 (Nat.pow_pos (by decide))
    omega
  · exact e
theorem level {ls : List UInt8} {n L : Nat} : ∀ m, n ≤ m → dealt ls n ≤ L → L < dealt ls m → ∃ k, n < k ∧ k ≤ m ∧ dealt ls (k - 1) ≤ L ∧ L < dealt ls k
  | 0, h, h1, h2 => by
    have : n = 0 := by omega
    subst this
    omega
  | m + 1, h, h1, h2 => by
    rcases Nat.lt_or_ge L (dealt ls m) with h3 | h3
    · rcases Nat.lt_or_ge n (m + 1) with h4 | h4
      · obtain ⟨k, a, b, c, d⟩ := level m (by omega) h1 h3
        exact ⟨k, a, by omega, c, d⟩
      · have : n = m + 1 := by omega
        subst this
        omega
    · rcases Nat.lt_or_ge n (m + 1) with h4 | h4
      · exact ⟨m + 1, h4, Nat.le_refl _, h3, h2⟩
      · have : n = m + 1 := by omega
        subst this
        omega
/-- Does a code of more bits begin so? -/
def begins (ls : List UInt8) (c n : Nat) : Prop := ∃ i x, ls[i]? = some x ∧ n ≤ x.toNat ∧ 0 < x.toNat ∧ codeK ls x.toNat i / 2 ^ (x.toNat - n) = c
theorem begins_iff {ls : List UInt8} {c n : Nat} (h : goodTab ls) (hn : n ≤ 15) (hc : c < 2 ^ n) (hf : firstK ls n + cntK ls n ≤ c) : begins ls c n ↔ n < lastK ls := by
  constructor
  · rintro ⟨i, x, hx, h1, h2, h3⟩
    have hm : x ∈ ls := List.mem_of_getElem? hx
    have hl := le_lastK hm
    rcases Nat.lt_or_ge n x.toNat with e | e
    · omega
    · have e : x.toNat = n := by omega
      rw [e, Nat.sub_self, Nat.pow_zero, Nat.div_one] at h3
      have := (isCode_sym (ls := ls) (n := n) (c := c) (i := i) ⟨by omega, x, hx, e, h3⟩ hn).2.1
      omega
  · intro hl
    have h15 : lastK ls ≤ 15 := lastK_le h.1
    rcases h.2 with hr | hr | ⟨hr, h1⟩
    · have hd := first_dealt ls n hn
      have e15 : (2 : Nat) ^ n * 2 ^ (15 - n) = 32768 := by
        rw [← Nat.pow_add, show n + (15 - n) = 15 by omega]
      have hp : 0 < 2 ^ (15 - n) := Nat.pow_pos (by decide)
      have hL1 : dealt ls n ≤ c * 2 ^ (15 - n) := by rw [← hd]; exact Nat.mul_le_mul_right _ hf
      have hL2 : c * 2 ^ (15 - n) < dealt ls 15 := by
        rw [dealt_room, hr, ← e15]
        exact Nat.mul_lt_mul_of_pos_right hc hp
      obtain ⟨k, hk1, hk2, hk3, hk4⟩ := level 15 hn hL1 hL2
      have hdk := first_dealt ls k hk2
      have hdp := dealt_pos (ls := ls) (show 0 < k by omega)
      rw [Nat.add_mul, hdp] at hdk
      have hfk : firstK ls k * 2 ^ (15 - k) = dealt ls (k - 1) := by omega
      have eL : c * 2 ^ (15 - n) = c * 2 ^ (k - n) * 2 ^ (15 - k) := by
        rw [Nat.mul_assoc, ← Nat.pow_add]
        congr 2
        omega
      have hpk : 0 < 2 ^ (15 - k) := Nat.pow_pos (by decide)
      have a1 : firstK ls k ≤ c * 2 ^ (k - n) := by
        refine Nat.le_of_mul_le_mul_right ?_ hpk
        rw [hfk, ← eL]
        exact hk3
      have a2 : c * 2 ^ (k - n) < firstK ls k + cntK ls k := by
        refine Nat.lt_of_mul_lt_mul_right (a := 2 ^ (15 - k)) ?_
        rw [← eL, Nat.add_mul, hfk, ← hdp]
        exact hk4
      obtain ⟨i, h0, x, hx, hxk, hcode⟩ := isCode_of a1 a2
      refine ⟨i, x, hx, by omega, by omega, ?_⟩
      rw [hxk, hcode]
      exact Nat.mul_div_cancel _ (Nat.pow_pos (by decide))
    · rw [last_empty h hr] at hl
      omega
    · have := last_one h hr h1
      have hn0 : n = 0 := by omega
      subst hn0
      have hc0 : c = 0 := by simp at hc; exact hc
      subst hc0
      have f1 : firstK ls 1 = 0 := by simp [firstK, cntK]
      obtain ⟨i, h0, x, hx, hxk, hcode⟩ := isCode_of (ls := ls) (n := 1) (c := 0) (by omega) (by omega)
      exact ⟨i, x, hx, by omega, by omega, by rw [hxk, hcode]⟩

/-- Where the document's reading stands behind n bits. -/
structure ReadInv (ls bs : List UInt8) (a n : Nat) : Prop where
  n15 : n ≤ 15
  left : a + n ≤ 8 * bs.length
  first : firstK ls n ≤ msb bs a n
  rest : readT ls bs a = if msb bs a n < firstK ls n + cntK ls n then .sym ((sortedK ls 15).getD (offK ls n + (msb bs a n - firstK ls n)) 0) n else readGo ls bs a (16 - n) (n + 1)
theorem ReadInv.start {ls bs : List UInt8} {a : Nat} (h : a ≤ 8 * bs.length) : ReadInv ls bs a 0 :=
  ⟨by omega, by omega, by simp [firstK], by rw [if_neg (by simp [msb, firstK, cntK])]; rfl⟩
theorem ReadInv.found {ls bs : List UInt8} {a n i : Nat} (h : ReadInv ls bs a n) (hc : isCode ls n (msb bs a n) i) : readT ls bs a = .sym i n := by
  obtain ⟨_, h2, h3⟩ := isCode_sym hc h.n15
  rw [h.rest, if_pos h2, h3]
theorem ReadInv.past {ls bs : List UInt8} {a n : Nat} (h : ReadInv ls bs a n) (hc : ∀ i, ¬ isCode ls n (msb bs a n) i) : firstK ls n + cntK ls n ≤ msb bs a n ∧ readT ls bs a = readGo ls bs a (16 - n) (n + 1) := by
  have : ¬ msb bs a n < firstK ls n + cntK ls n := fun hlt => by
    obtain ⟨i, hi⟩ := isCode_of h.first hlt
    exact hc i hi
  exact ⟨by omega, by rw [h.rest, if_neg this]⟩
theorem ReadInv.next {ls bs : List UInt8} {a n : Nat} (g : goodTab ls) (h : ReadInv ls bs a n) (hc : ∀ i, ¬ isCode ls n (msb bs a n) i) :
    (¬ begins ls (msb bs a n) n → readT ls bs a = .form) ∧ (begins ls (msb bs a n) n → n < 15 ∧ (8 * bs.length < a + n + 1 → readT ls bs a = .short) ∧ (a + n + 1 ≤ 8 * bs.length → ReadInv ls bs a (n + 1))) := by
  obtain ⟨h1, h2⟩ := h.past hc
  have hb := begins_iff g h.n15 (msb_lt bs a n) h1
  have h15 : lastK ls ≤ 15 := lastK_le g.1
  have hn := h.n15
  have e : 16 - n = (15 - n) + 1 := by omega
  rw [e, readGo] at h2
  constructor
  · intro hnb
    rw [h2, if_pos (by have := mt hb.2 hnb; omega)]
  · intro hbb
    have hl := hb.1 hbb
    rw [if_neg (by omega)] at h2
    refine ⟨by omega, fun hs => by rw [h2, if_pos (by omega)], fun hs => ?_⟩
    rw [if_neg (by omega)] at h2
    refine ⟨by omega, hs, ?_, by rw [h2, show 16 - (n + 1) = 15 - n by omega]⟩
    rw [firstK, msb]
    omega
end Go.Vc
