/- Codes by their lengths, as plain lists: counts, first codes, the symbols in order, how a code is read. No program in sight. -/
import Derived.Test.YteffnkpplhcomaaMem3
namespace Go.Vc

def cntK (ls : List UInt8) (k : Nat) : Nat := if k = 0 then 0 else ls.countP fun x => x.toNat == k
/-- The first code of a length. -/
def firstK (ls : List UInt8) : Nat → Nat
  | 0 => 0
  | k + 1 => 2 * (firstK ls k + cntK ls k)
/-- How many symbols have a shorter code. -/
def offK (ls : List UInt8) : Nat → Nat
  | 0 => 0
  | k + 1 => offK ls k + cntK ls k
/-- The symbols of a length. -/
def symsK (ls : List UInt8) (k n : Nat) : List Nat := (List.range n).filter fun i => k ≠ 0 ∧ (ls[i]?).map (·.toNat) = some k
def sortedK (ls : List UInt8) : Nat → List Nat
  | 0 => []
  | k + 1 => sortedK ls k ++ symsK ls (k + 1) ls.length
def codeK (ls : List UInt8) (k i : Nat) : Nat := firstK ls k + cntK (ls.take i) k
def roomN (ls : List UInt8) : Nat := (ls.map fun x => if 0 < x.toNat ∧ x.toNat ≤ 15 then 2 ^ (15 - x.toNat) else 0).sum
def lastK (ls : List UInt8) : Nat := ls.foldl (fun m x => max m x.toNat) 0

theorem cntK_nil (k : Nat) : cntK [] k = 0 := by unfold cntK; split <;> rfl
theorem cntK_cons (x : UInt8) (r : List UInt8) (k : Nat) : cntK (x :: r) k = cntK r k + (if k ≠ 0 ∧ x.toNat = k then 1 else 0) := by
  unfold cntK
  by_cases hk : k = 0
  · simp [hk]
  · rw [if_neg hk, if_neg hk, List.countP_cons]
    by_cases hx : x.toNat = k <;> simp [hk, hx]
theorem cntK_append (a b : List UInt8) (k : Nat) : cntK (a ++ b) k = cntK a k + cntK b k := by
  unfold cntK
  split
  · rfl
  · rw [List.countP_append]
theorem cntK_le (ls : List UInt8) (k : Nat) : cntK ls k ≤ ls.length := by
  unfold cntK
  split
  · exact Nat.zero_le _
  · exact List.countP_le_length
theorem symsK_length (ls : List UInt8) (k : Nat) : ∀ n, n ≤ ls.length → (symsK ls k n).length = cntK (ls.take n) k
  | 0, _ => by simp [symsK, cntK_nil]
  | n + 1, h => by
    have ih := symsK_length ls k n (by omega)
    have hx : ls[n]? = some ls[n] := List.getElem?_eq_getElem (by omega)
    unfold symsK at *
    rw [List.range_succ, List.filter_append, List.length_append, ih, List.take_add_one, hx, cntK_append]
    congr 1
    show _ = cntK [ls[n]] k
    rw [cntK_cons, cntK_nil, Nat.zero_add]
    by_cases hk : k ≠ 0 ∧ ls[n].toNat = k
    · simp [hx, hk.1, hk.2]
    · rw [if_neg hk]
      simp [hx]
      intro h1
      exact fun h2 => hk ⟨h1, h2⟩
theorem symsK_succ (ls : List UInt8) (k n : Nat) {x : UInt8} (hx : ls[n]? = some x) : symsK ls k (n + 1) = if k ≠ 0 ∧ x.toNat = k then symsK ls k n ++ [n] else symsK ls k n := by
  unfold symsK
  rw [List.range_succ, List.filter_append]
  by_cases hk : k ≠ 0 ∧ x.toNat = k
  · rw [if_pos hk]
    simp [hx, hk.1, hk.2]
  · rw [if_neg hk]
    simp [hx]
    intro h1
    exact fun h2 => hk ⟨h1, h2⟩
theorem cntK_take_succ (ls : List UInt8) (k n : Nat) {x : UInt8} (hx : ls[n]? = some x) : cntK (ls.take (n + 1)) k = if k ≠ 0 ∧ x.toNat = k then cntK (ls.take n) k + 1 else cntK (ls.take n) k := by
  rw [List.take_add_one, hx, cntK_append]
  show _ + cntK [x] k = _
  rw [cntK_cons, cntK_nil, Nat.zero_add]
  split <;> rfl
/-- The symbol of a length with so many of its length ahead. -/
theorem symsK_get (ls : List UInt8) (k : Nat) : ∀ n, n ≤ ls.length → ∀ i, i < n → ∀ x, ls[i]? = some x → k ≠ 0 → x.toNat = k → (symsK ls k n)[cntK (ls.take i) k]? = some i
  | 0, _, i, hi, _, _, _, _ => by omega
  | n + 1, h, i, hi, x, hx, h0, hk => by
    have hn : ls[n]? = some ls[n] := List.getElem?_eq_getElem (by omega)
    have hlen := symsK_length ls k n (by omega)
    rw [symsK_succ ls k n hn]
    by_cases hin : i < n
    · have ih := symsK_get ls k n (by omega) i hin x hx h0 hk
      split
      · rw [List.getElem?_append_left (List.getElem?_eq_some_iff.1 ih).1]
        exact ih
      · exact ih
    · have : i = n := by omega
      subst this
      rw [hx] at hn
      have hn := Option.some.inj hn
      rw [if_pos ⟨h0, by rw [← hn]; exact hk⟩, ← hlen, List.getElem?_append_right (Nat.le_refl _), Nat.sub_self]
      rfl
/-- A symbol of the row of a length has this length, and so many ahead. -/
theorem symsK_mem (ls : List UInt8) (k : Nat) : ∀ n, n ≤ ls.length → ∀ j i, (symsK ls k n)[j]? = some i → k ≠ 0 ∧ i < n ∧ (∃ x, ls[i]? = some x ∧ x.toNat = k) ∧ cntK (ls.take i) k = j
  | 0, _, j, i, hj => by simp [symsK] at hj
  | n + 1, h, j, i, hj => by
    have hn : ls[n]? = some ls[n] := List.getElem?_eq_getElem (by omega)
    have hlen := symsK_length ls k n (by omega)
    rw [symsK_succ ls k n hn] at hj
    split at hj
    · next hk =>
      rcases Nat.lt_or_ge j (symsK ls k n).length with hjl | hjl
      · rw [List.getElem?_append_left hjl] at hj
        obtain ⟨h0, h1, h2, h3⟩ := symsK_mem ls k n (by omega) j i hj
        exact ⟨h0, by omega, h2, h3⟩
      · rw [List.getElem?_append_right hjl] at hj
        have hz : j - (symsK ls k n).length = 0 := by
          rcases Nat.eq_zero_or_pos (j - (symsK ls k n).length) with e | e
          · exact e
          · rw [List.getElem?_eq_none (by simp; omega)] at hj; cases hj
        rw [hz] at hj
        cases hj
        exact ⟨hk.1, by omega, ⟨_, hn, hk.2⟩, by omega⟩
    · obtain ⟨h0, h1, h2, h3⟩ := symsK_mem ls k n (by omega) j i hj
      exact ⟨h0, by omega, h2, h3⟩
theorem sortedK_length (ls : List UInt8) : ∀ k, (sortedK ls k).length = offK ls (k + 1)
  | 0 => by simp [sortedK, offK, cntK]
  | k + 1 => by
    rw [sortedK, List.length_append, sortedK_length ls k, symsK_length ls (k + 1) ls.length (Nat.le_refl _), List.take_length]
    rfl
theorem sortedK_prefix (ls : List UInt8) {j k : Nat} (h : j ≤ k) : ∃ r, sortedK ls k = sortedK ls j ++ r := by
  induction k with
  | zero => have : j = 0 := by omega
            subst this; exact ⟨[], by simp⟩
  | succ k ih =>
    rcases Nat.lt_or_ge j (k + 1) with hj | hj
    · obtain ⟨r, hr⟩ := ih (by omega)
      exact ⟨r ++ symsK ls (k + 1) ls.length, by rw [sortedK, hr, List.append_assoc]⟩
    · have : j = k + 1 := by omega
      subst this
      exact ⟨[], by simp⟩
/-- Where the symbols of a length stand in the row of all. -/
theorem sortedK_get (ls : List UInt8) {k m j : Nat} (hk : 1 ≤ k) (hm : k ≤ m) (hj : j < cntK ls k) : (sortedK ls m)[offK ls k + j]? = (symsK ls k ls.length)[j]? := by
  obtain ⟨r, hr⟩ := sortedK_prefix ls hm
  obtain ⟨k, rfl⟩ : ∃ k', k = k' + 1 := ⟨k - 1, by omega⟩
  have hl := sortedK_length ls k
  have hs := symsK_length ls (k + 1) ls.length (Nat.le_refl _)
  rw [List.take_length] at hs
  rw [hr, sortedK, List.append_assoc, List.getElem?_append_right (by omega), hl, Nat.add_sub_cancel_left, List.getElem?_append_left (by omega)]

/-! ### Room -/
/-- What is dealt up to a length, in the smallest parts. -/
def dealt (ls : List UInt8) : Nat → Nat
  | 0 => 0
  | k + 1 => dealt ls k + cntK ls (k + 1) * 2 ^ (15 - (k + 1))
theorem dealt_cons (x : UInt8) (r : List UInt8) : ∀ k, k ≤ 15 → dealt (x :: r) k = dealt r k + (if 0 < x.toNat ∧ x.toNat ≤ k then 2 ^ (15 - x.toNat) else 0)
  | 0, _ => by simp only [dealt]; rw [if_neg (by omega)]
  | k + 1, h => by
    rw [dealt, dealt, dealt_cons x r k (by omega), cntK_cons]
    by_cases h1 : x.toNat = k + 1
    · rw [if_pos (by omega : k + 1 ≠ 0 ∧ x.toNat = k + 1), if_pos (by omega : 0 < x.toNat ∧ x.toNat ≤ k + 1), if_neg (by omega), h1, Nat.add_mul]
      omega
    · rw [if_neg (by omega : ¬ (k + 1 ≠ 0 ∧ x.toNat = k + 1)), Nat.add_zero]
      by_cases h2 : 0 < x.toNat ∧ x.toNat ≤ k
      · rw [if_pos h2, if_pos (by omega)]; omega
      · rw [if_neg h2, if_neg (by omega)]; omega
theorem dealt_room (ls : List UInt8) : dealt ls 15 = roomN ls := by
  induction ls with
  | nil =>
    have : ∀ k, dealt [] k = 0 := by
      intro k
      induction k with
      | zero => rfl
      | succ k ih => rw [dealt, ih, cntK_nil]; simp
    rw [this]; rfl
  | cons x r ih => rw [dealt_cons x r 15 (Nat.le_refl _), ih, roomN, roomN, List.map_cons, List.sum_cons, Nat.add_comm]
theorem first_dealt (ls : List UInt8) : ∀ k, k ≤ 15 → (firstK ls k + cntK ls k) * 2 ^ (15 - k) = dealt ls k
  | 0, _ => by simp [firstK, cntK, dealt]
  | k + 1, h => by
    have ih := first_dealt ls k (by omega)
    rw [dealt, ← ih, firstK, Nat.add_mul]
    congr 1
    rw [show 15 - k = (15 - (k + 1)) + 1 by omega, Nat.pow_succ]
    rw [Nat.mul_comm 2, Nat.mul_assoc, Nat.mul_comm 2]
theorem dealt_mono (ls : List UInt8) {j k : Nat} (h : j ≤ k) : dealt ls j ≤ dealt ls k := by
  induction k with
  | zero => have : j = 0 := by omega
            subst this; exact Nat.le_refl _
  | succ k ih =>
    rcases Nat.lt_or_ge j (k + 1) with hj | hj
    · exact Nat.le_trans (ih (by omega)) (Nat.le_add_right _ _)
    · have : j = k + 1 := by omega
      subst this; exact Nat.le_refl _
theorem kraft {ls : List UInt8} (h : roomN ls ≤ 32768) {k : Nat} (hk : k ≤ 15) : firstK ls k + cntK ls k ≤ 2 ^ k := by
  have h1 := first_dealt ls k hk
  have h2 := dealt_mono ls hk
  rw [dealt_room] at h2
  have h3 : (firstK ls k + cntK ls k) * 2 ^ (15 - k) ≤ 2 ^ k * 2 ^ (15 - k) := by
    rw [h1, ← Nat.pow_add, show k + (15 - k) = 15 by omega]
    omega
  exact Nat.le_of_mul_le_mul_right h3 (Nat.pow_pos (by decide))

/-! ### Reading -/
/-- The first k bits behind a place, the first one the highest. -/
def msb (bs : List UInt8) (at_ : Nat) : Nat → Nat
  | 0 => 0
  | k + 1 => 2 * msb bs at_ k + peekN bs (at_ + k) 1
theorem msb_lt (bs : List UInt8) (at_ k : Nat) : msb bs at_ k < 2 ^ k := by
  induction k with
  | zero => simp [msb]
  | succ k ih =>
    rw [msb, Nat.pow_succ]
    have := peekN_lt bs (at_ + k) 1
    omega
inductive RR where
  | sym (s k : Nat)
  | short
  | form
/-- A code that is read, its bits looked at from the first on. -/
def readGo (ls : List UInt8) (bs : List UInt8) (at_ : Nat) : Nat → Nat → RR
  | 0, _ => .form
  | n + 1, k =>
    if lastK ls < k then .form
    else if min 15 (8 * bs.length - at_) < k then .short
    else if msb bs at_ k < firstK ls k + cntK ls k then .sym ((sortedK ls 15).getD (offK ls k + (msb bs at_ k - firstK ls k)) 0) k
    else readGo ls bs at_ n (k + 1)
def readT (ls bs : List UInt8) (at_ : Nat) : RR := readGo ls bs at_ 16 1

theorem lastK_append (a : List UInt8) (x : UInt8) : lastK (a ++ [x]) = max (lastK a) x.toNat := by simp [lastK]
theorem lastK_le {ls : List UInt8} {m : Nat} (h : ∀ x ∈ ls, x.toNat ≤ m) : lastK ls ≤ m := by
  unfold lastK
  suffices H : ∀ (l : List UInt8) (a : Nat), a ≤ m → (∀ x ∈ l, x.toNat ≤ m) → l.foldl (fun m x => max m x.toNat) a ≤ m from H ls 0 (Nat.zero_le _) h
  intro l
  induction l with
  | nil => intro a ha _; exact ha
  | cons x r ih =>
    intro a ha hr
    refine ih _ ?_ fun y hy => hr y (by simp [hy])
    have := hr x (by simp)
    show max a x.toNat ≤ m
    omega
theorem le_lastK {ls : List UInt8} {x : UInt8} (h : x ∈ ls) : x.toNat ≤ lastK ls := by
  unfold lastK
  suffices H : ∀ (l : List UInt8) (a : Nat), a ≤ l.foldl (fun m x => max m x.toNat) a ∧ ∀ x ∈ l, x.toNat ≤ l.foldl (fun m x => max m x.toNat) a from (H ls 0).2 x h
  intro l
  induction l with
  | nil => intro a; exact ⟨Nat.le_refl _, fun x hx => by cases hx⟩
  | cons y r ih =>
    intro a
    obtain ⟨h1, h2⟩ := ih (max a y.toNat)
    refine ⟨Nat.le_trans (Nat.le_max_left _ _) h1, fun z hz => ?_⟩
    rcases List.mem_cons.1 hz with rfl | hz
    · exact Nat.le_trans (Nat.le_max_right _ _) h1
    · exact h2 z hz

/-- A code's bits, the last one first. -/
def revN : Nat → Nat → Nat
  | _, 0 => 0
  | v, n + 1 => 2 * revN v n + v / 2 ^ n % 2
end Go.Vc
