/- The document's graphics keys: a key and its value. -/
import Derived.Test.YtpadlibcalomnaaDoorK7
set_option linter.unusedVariables false
namespace Go.Proofs.YtpadlibcalomnaaDoor
open Go.Vc Go.RowKit
set_option maxRecDepth 400000

/-- The document's keys in a block. -/
structure KR (w : World) (g : Nat) (L : List Int) : Prop where
  blk : Blk w g ty_phosphorref19_Keys (cellsK L)
  len : L.length = 22
section
variable {w : World} {g : Nat} {L : List Int}
theorem KR.ext {w' : World} (h : KR w g L) (hb : Below w.heap.size w w') : KR w' g L := ⟨h.blk.ext hb, h.len⟩
theorem KR.drew (h : KR w g L) : KR w.drew g L := ⟨h.blk.drew, h.len⟩
theorem KR.chg {S : Nat → Prop} {w' : World} (h : KR w g L) (hc : Chg S w w') (hg : ¬ S g) : KR w' g L := ⟨h.blk.chg hc hg, h.len⟩
theorem KR.cell (h : KR w g L) {j : Nat} (hj : j < 22) : w.cell? ⟨g, j, none⟩ = some (cellK j (L[j]?.getD 0)) := h.blk.cell j (cellsK_get h.len hj)
theorem KR.cells (h : KR w g L) : cellsAt w ⟨g, 0, none⟩ (T_keys_Keys.rep.cells (ofL L)) := by rw [ofL_cells h.len]; exact h.blk.cells
theorem KR.st (h : KR w g L) {j : Nat} (hj : j < 22) {v : Int} {u : Value} (hu : u = cellK j v) {K : World → Prop} (hK : ∀ w', KR w' g (L.set j v) → Chg (fun k => k = g) w w' → w'.heap.size = w.heap.size → K w') : stK ⟨g, j, none⟩ [u] w K := by
  subst hu
  refine stK_blk h.blk (by rw [cellsK_len, h.len, List.length_singleton]; omega) fun w' hb hg hs => hK w' ⟨?_, by rw [List.length_set]; exact h.len⟩ (Chg.gg hg) hs
  have : putL (cellsK L) j [cellK j v] = cellsK (L.set j v) := by
    have := cellsF_set L 0 j v
    rw [Nat.zero_add] at this
    exact this
  rwa [this] at hb
theorem putL_all {L M : List Int} (hl : L.length = 22) (hm : M.length = 22) : putL (cellsK M) 0 (cellsK L) = cellsK L := by
  refine List.ext_getElem? fun m => ?_
  rw [putL_get _ _ 0 m (by rw [cellsK_len, cellsK_len]; omega)]
  by_cases hm' : m < 22
  · rw [if_pos (by rw [cellsK_len, hl]; omega)]; rfl
  · rw [if_neg (by rw [cellsK_len, hl]; omega), List.getElem?_eq_none (by rw [cellsK_len, hm]; omega), List.getElem?_eq_none (by rw [cellsK_len, hl]; omega)]
/-- A whole key stored. -/
theorem KR.stAll (h : KR w g L) {k : T_keys_Keys} {K : World → Prop} (hK : ∀ w', KR w' g (toL k) → Chg (fun k => k = g) w w' → w'.heap.size = w.heap.size → K w') : stK ⟨g, 0, none⟩ (T_keys_Keys.rep.cells k) w K := by
  refine stK_blk h.blk (by rw [toL_cells, cellsK_len, cellsK_len, h.len, toL_len]; omega) fun w' hb hg hs => hK w' ⟨?_, rfl⟩ (Chg.gg hg) hs
  rw [toL_cells, putL_all rfl h.len] at hb
  exact hb
theorem KR.cellsT {k : T_keys_Keys} (h : KR w g (toL k)) : cellsAt w ⟨g, 0, none⟩ (T_keys_Keys.rep.cells k) := h.blk.cells
/-- What a function hands back by its result's box. -/
theorem ret_spec {z : Nat} {M : List Int} (h : KR w g L) (hz : KR w z M) {K : T_keys_Keys → World → Prop} (hK : ∀ w', Chg (fun k => k = z) w w' → w'.heap.size = w.heap.size → K (ofL L) w') :
    ldS T_keys_Keys.rep ⟨g, 0, none⟩ w fun t => stK ⟨z, 0, none⟩ (T_keys_Keys.rep.cells t) w fun w2 => ldS T_keys_Keys.rep ⟨z, 0, none⟩ w2 fun r => K r w2 := by
  refine ldS_of (x := ofL L) h.cells (hz.stAll fun w2 h2 hc hs => ?_)
  exact ldS_of (x := ofL L) h2.cellsT (hK w2 hc hs)
theorem ret_of {z : Nat} {M : List Int} {t : T_keys_Keys} (hz : KR w z M) {K : T_keys_Keys → World → Prop} (hK : ∀ w', Chg (fun k => k = z) w w' → w'.heap.size = w.heap.size → K t w') :
    stK ⟨z, 0, none⟩ (T_keys_Keys.rep.cells t) w fun w2 => ldS T_keys_Keys.rep ⟨z, 0, none⟩ w2 fun r => K r w2 := by
  refine hz.stAll fun w2 h2 hc hs => ?_
  exact ldS_of (x := t) h2.cellsT (hK w2 hc hs)
theorem nwK {k : T_keys_Keys} {K : Addr → World → Prop} (hK : ∀ w', KR w' w.heap.size (toL k) → Below w.heap.size w w' → w'.heap.size = w.heap.size + 1 → K ⟨w.heap.size, 0, none⟩ w') : nw ty_phosphorref19_Keys (T_keys_Keys.rep.cells k) w K :=
  nw_blk fun w1 hb hB hs => hK w1 ⟨hb, rfl⟩ hB hs
theorem nwZ {K : Addr → World → Prop} (hK : ∀ w', KR w' w.heap.size zeroL → Below w.heap.size w w' → w'.heap.size = w.heap.size + 1 → K ⟨w.heap.size, 0, none⟩ w') :
    nw ty_phosphorref19_Keys [(.int .u8 0), (.int .u8 0), (.int .u8 0), (.int .u8 0), (.int .i64 0), (.int .i64 0), (.int .i64 0), (.int .i64 0), (.int .i64 0), (.int .i64 0), (.int .i64 0), (.int .i64 0), (.int .i64 0), (.int .i64 0), (.int .i64 0), (.int .i64 0), (.int .i64 0), (.int .i64 0), (.int .i64 0), (.int .i64 0), (.int .i64 0), (.int .i64 0)] w K :=
  nw_blk fun w1 hb hB hs => hK w1 ⟨hb, rfl⟩ hB hs
theorem get_spec {k : T_keys_Keys} {j : Nat} (hj : j < 17) {K : Int → World → Prop} (hK : ∀ w', Below w.heap.size w w' → K ((toL k)[numPos j]?.getD 0) w') : c_phosphorref19_get k (j : Int) w K := by
  refine call_phosphorref19_get _ _ ?_
  unfold sh_phosphorref19_get
  refine nwK fun w1 hk hB1 hs1 => ?_
  have ld : ∀ i, i < 22 → ¬ i < 4 → w1.cell? ((⟨w.heap.size, 0, none⟩ : Addr).add i) = some (.int .i64 ((toL k)[i]?.getD 0)) := fun i hi h4 => by
    have := hk.cell hi
    rw [add_mk, Nat.zero_add, this]
    unfold cellK
    rw [if_neg h4]
  refine ldI_of (ld 4 (by omega) (by omega)) (ldI_of (ld 5 (by omega) (by omega)) (ldI_of (ld 6 (by omega) (by omega)) (ldI_of (ld 7 (by omega) (by omega)) (ldI_of (ld 8 (by omega) (by omega)) (ldI_of (ld 9 (by omega) (by omega)) (ldI_of (ld 10 (by omega) (by omega)) (ldI_of (ld 11 (by omega) (by omega)) ?_)))))))
  refine ldI_of (ld 12 (by omega) (by omega)) (ldI_of (ld 13 (by omega) (by omega)) (ldI_of (ld 14 (by omega) (by omega)) (ldI_of (ld 15 (by omega) (by omega)) (ldI_of (ld 16 (by omega) (by omega)) (ldI_of (ld 17 (by omega) (by omega)) (ldI_of (ld 18 (by omega) (by omega)) (ldI_of (ld 19 (by omega) (by omega)) (ldI_of (ld 21 (by omega) (by omega)) ?_))))))))
  refine nw_blk fun w2 hb2 hB2 hs2 => ⟨⟨by omega, by omega⟩, ?_⟩
  refine ldI_of (x := (toL k)[numPos j]?.getD 0) ?_ (hK w2 (hB1.trans (hB2.mono (by omega))))
  rw [Nat.mul_one, Int.toNat_natCast, add_mk, Nat.zero_add]
  have : j = 0 ∨ j = 1 ∨ j = 2 ∨ j = 3 ∨ j = 4 ∨ j = 5 ∨ j = 6 ∨ j = 7 ∨ j = 8 ∨ j = 9 ∨ j = 10 ∨ j = 11 ∨ j = 12 ∨ j = 13 ∨ j = 14 ∨ j = 15 ∨ j = 16 := by omega
  rcases this with rfl | rfl | rfl | rfl | rfl | rfl | rfl | rfl | rfl | rfl | rfl | rfl | rfl | rfl | rfl | rfl | rfl <;> exact hb2.cell _ rfl
theorem withMore_spec {k : T_keys_Keys} {j : Nat} (hj : j < 17) {v : Int} {K : T_keys_Keys → World → Prop} (hK : ∀ w', Below w.heap.size w w' → K (ofL (if 8 ≤ j then (toL k).set (numPos j) v else toL k)) w') : c_phosphorref19_withMore k (j : Int) v w K := by
  refine call_phosphorref19_withMore _ _ _ ?_
  unfold sh_phosphorref19_withMore
  refine nwK fun w1 hk hB1 hs1 => nwZ fun w2 hz hB2 hs2 => ?_
  have hk2 := hk.ext hB2
  have hB12 := hB1.trans (hB2.mono (by omega))
  have key : ∀ (i : Nat), i < 22 → ¬ i < 4 → (8 ≤ j ∧ numPos j = i) → stK ((⟨w.heap.size, 0, none⟩ : Addr).add i) [(.int .i64 v)] w2 fun w3 => ldS T_keys_Keys.rep ⟨w.heap.size, 0, none⟩ w3 fun t => stK ⟨w1.heap.size, 0, none⟩ (T_keys_Keys.rep.cells t) w3 fun w4 => ldS T_keys_Keys.rep ⟨w1.heap.size, 0, none⟩ w4 fun r => K r w4 := by
    rintro i hi h4 ⟨h8, hp⟩
    rw [add_mk, Nat.zero_add]
    refine hk2.st hi (v := v) (by unfold cellK; rw [if_neg h4]) fun w3 hk3 hc3 hs3 => ?_
    refine ret_spec hk3 (hz.chg hc3 (by omega)) fun w4 hc4 hs4 => ?_
    have := hK w4 (((hB12.trans (hc3.below (by omega) fun i hi e => by omega))).trans (hc4.below (by omega) fun i hi e => by omega))
    rwa [if_pos h8, hp] at this
  have hnum : ∀ m : Nat, m ≠ j → ((j : Int) == (m : Int)) = false := fun m hm => by simp; omega
  by_cases h8 : j < 8
  · have := fun m (hm : 8 ≤ m) => hnum m (by omega)
    refine cond_f (this 8 (by omega)) (cond_f (this 9 (by omega)) (cond_f (this 10 (by omega)) (cond_f (this 11 (by omega)) (cond_f (this 12 (by omega)) (cond_f (this 13 (by omega)) (cond_f (this 14 (by omega)) (cond_f (this 15 (by omega)) (cond_f (this 16 (by omega)) ?_))))))))
    refine ret_spec hk2 hz fun w4 hc4 hs4 => ?_
    have := hK w4 (hB12.trans (hc4.below (by omega) fun i hi e => by omega))
    rwa [if_neg (by omega)] at this
  · have : j = 8 ∨ j = 9 ∨ j = 10 ∨ j = 11 ∨ j = 12 ∨ j = 13 ∨ j = 14 ∨ j = 15 ∨ j = 16 := by omega
    rcases this with rfl | rfl | rfl | rfl | rfl | rfl | rfl | rfl | rfl
    · exact cond_t rfl (key 12 (by omega) (by omega) ⟨by omega, rfl⟩)
    · exact cond_f rfl (cond_t rfl (key 13 (by omega) (by omega) ⟨by omega, rfl⟩))
    · exact cond_f rfl (cond_f rfl (cond_t rfl (key 14 (by omega) (by omega) ⟨by omega, rfl⟩)))
    · exact cond_f rfl (cond_f rfl (cond_f rfl (cond_t rfl (key 15 (by omega) (by omega) ⟨by omega, rfl⟩))))
    · exact cond_f rfl (cond_f rfl (cond_f rfl (cond_f rfl (cond_t rfl (key 16 (by omega) (by omega) ⟨by omega, rfl⟩)))))
    · exact cond_f rfl (cond_f rfl (cond_f rfl (cond_f rfl (cond_f rfl (cond_t rfl (key 17 (by omega) (by omega) ⟨by omega, rfl⟩))))))
    · exact cond_f rfl (cond_f rfl (cond_f rfl (cond_f rfl (cond_f rfl (cond_f rfl (cond_t rfl (key 18 (by omega) (by omega) ⟨by omega, rfl⟩)))))))
    · exact cond_f rfl (cond_f rfl (cond_f rfl (cond_f rfl (cond_f rfl (cond_f rfl (cond_f rfl (cond_t rfl (key 19 (by omega) (by omega) ⟨by omega, rfl⟩))))))))
    · exact cond_f rfl (cond_f rfl (cond_f rfl (cond_f rfl (cond_f rfl (cond_f rfl (cond_f rfl (cond_f rfl (cond_t rfl (key 21 (by omega) (by omega) ⟨by omega, rfl⟩)))))))))
theorem with_spec {k : T_keys_Keys} {j : Nat} (hj : j < 17) {v : Int} {K : T_keys_Keys → World → Prop} (hK : ∀ w', Below w.heap.size w w' → K (ofL ((toL k).set (numPos j) v)) w') : c_phosphorref19_with k (j : Int) v w K := by
  refine call_phosphorref19_with _ _ _ ?_
  unfold sh_phosphorref19_with
  refine nwK fun w1 hk hB1 hs1 => nwZ fun w2 hz hB2 hs2 => ?_
  have hk2 := hk.ext hB2
  have hB12 := hB1.trans (hB2.mono (by omega))
  refine joinP_of fun J1 hJ1 => ?_
  have hend : ∀ {w3 : World} {M : List Int}, KR w3 w.heap.size M → KR w3 w1.heap.size zeroL → Below w.heap.size w w3 → w2.heap.size ≤ w3.heap.size → (if 8 ≤ j then M.set (numPos j) v else M) = (toL k).set (numPos j) v → J1 () w3 := by
    intro w3 M hk3 hz3 hB3 hs3 he
    refine hJ1 _ _ (ldS_of (x := ofL M) hk3.cells (withMore_spec hj fun w4 hB4 => ?_))
    rw [list22 hk3.len, he]
    refine ret_of (hz3.ext hB4) fun w5 hc5 hs5 => hK w5 ((hB3.trans (hB4.mono (by omega))).trans (hc5.below (by have := hB4.size; omega) fun i hi e => by omega))
  have key : ∀ (i : Nat), i < 22 → ¬ i < 4 → (j < 8 ∧ numPos j = i) → stK ((⟨w.heap.size, 0, none⟩ : Addr).add i) [(.int .i64 v)] w2 fun w6 => J1 () w6 := by
    rintro i hi h4 ⟨h8, hp⟩
    rw [add_mk, Nat.zero_add]
    refine hk2.st hi (v := v) (by unfold cellK; rw [if_neg h4]) fun w3 hk3 hc3 hs3 => hend hk3 (hz.chg hc3 (by omega)) (hB12.trans (hc3.below (by omega) fun i hi e => by omega)) (by omega) ?_
    rw [if_neg (by omega), hp]
  have hnum : ∀ m : Nat, m ≠ j → ((j : Int) == (m : Int)) = false := fun m hm => by simp; omega
  by_cases h8 : 8 ≤ j
  · have := fun m (hm : m < 8) => hnum m (by omega)
    refine cond_f (this 0 (by omega)) (cond_f (this 1 (by omega)) (cond_f (this 2 (by omega)) (cond_f (this 3 (by omega)) (cond_f (this 4 (by omega)) (cond_f (this 5 (by omega)) (cond_f (this 6 (by omega)) (cond_f (this 7 (by omega)) ?_)))))))
    exact hend hk2 hz hB12 (Nat.le_refl _) (by rw [if_pos h8])
  · have : j = 0 ∨ j = 1 ∨ j = 2 ∨ j = 3 ∨ j = 4 ∨ j = 5 ∨ j = 6 ∨ j = 7 := by omega
    rcases this with rfl | rfl | rfl | rfl | rfl | rfl | rfl | rfl
    · exact cond_t rfl (key 4 (by omega) (by omega) ⟨by omega, rfl⟩)
    · exact cond_f rfl (cond_t rfl (key 5 (by omega) (by omega) ⟨by omega, rfl⟩))
    · exact cond_f rfl (cond_f rfl (cond_t rfl (key 6 (by omega) (by omega) ⟨by omega, rfl⟩)))
    · exact cond_f rfl (cond_f rfl (cond_f rfl (cond_t rfl (key 7 (by omega) (by omega) ⟨by omega, rfl⟩))))
    · exact cond_f rfl (cond_f rfl (cond_f rfl (cond_f rfl (cond_t rfl (key 8 (by omega) (by omega) ⟨by omega, rfl⟩)))))
    · exact cond_f rfl (cond_f rfl (cond_f rfl (cond_f rfl (cond_f rfl (cond_t rfl (key 9 (by omega) (by omega) ⟨by omega, rfl⟩))))))
    · exact cond_f rfl (cond_f rfl (cond_f rfl (cond_f rfl (cond_f rfl (cond_f rfl (cond_t rfl (key 10 (by omega) (by omega) ⟨by omega, rfl⟩)))))))
    · exact cond_f rfl (cond_f rfl (cond_f rfl (cond_f rfl (cond_f rfl (cond_f rfl (cond_f rfl (cond_t rfl (key 11 (by omega) (by omega) ⟨by omega, rfl⟩))))))))
theorem letter_spec (c : UInt8) {i : Int} (hi : i = c.toNat) {K : Bool → World → Prop} (hK : K (isLetter c) w) : c_phosphorref19_letter i w K := by
  subst hi
  refine call_phosphorref19_letter _ ?_
  unfold sh_phosphorref19_letter
  have e1 : decide ((c.toNat : Int) ≥ 65) = decide ((65 : UInt8) ≤ c) := u8_ge 65 (by omega)
  have e2 : decide ((c.toNat : Int) ≤ 90) = decide (c ≤ (90 : UInt8)) := u8_le 90 (by omega)
  have e3 : decide ((c.toNat : Int) ≥ 97) = decide ((97 : UInt8) ≤ c) := u8_ge 97 (by omega)
  have e4 : decide ((c.toNat : Int) ≤ 122) = decide (c ≤ (122 : UInt8)) := u8_le 122 (by omega)
  rw [e1, e2, e3, e4]
  unfold isLetter at hK
  cases h1 : decide ((65 : UInt8) ≤ c) <;> cases h2 : decide (c ≤ (90 : UInt8)) <;> cases h3 : decide ((97 : UInt8) ≤ c) <;> rw [h1, h2, h3] at hK <;> simpa using hK
theorem place_spec (c : UInt8) {i : Int} (hi : i = c.toNat) {K : Int → World → Prop} (hK : K (Lib.indexByte numsB c) w) : c_phosphorref19_place i w K := by
  subst hi
  refine call_phosphorref19_place _ ?_
  unfold sh_phosphorref19_place
  refine loopP_rule (fun (s : Int × Unit) w1 => w1 = w ∧ ∃ k : Nat, s.1 = k ∧ k ≤ 17 ∧ Lib.indexByte numsB c = if Lib.indexByte (numsB.drop k) c = -1 then -1 else Lib.indexByte (numsB.drop k) c + k) (fun s => 17 - s.1.toNat) ⟨rfl, 0, rfl, by omega, ?_⟩ ?_
  · rw [List.drop_zero]
    split
    · assumption
    · omega
  rintro ⟨i, u⟩ _ ⟨rfl, k, hi, hk, he⟩ I hI
  dsimp only at hi ⊢
  subst hi
  by_cases hlt : k < 17
  · refine cond_t (by simp; omega) ?_
    obtain ⟨b, hb⟩ : ∃ b, numsB[k]? = some b := ⟨numsB[k], List.getElem?_eq_getElem hlt⟩
    have hd : numsB.drop k = b :: numsB.drop (k + 1) := by
      rw [List.drop_eq_getElem_cons (show k < numsB.length from hlt)]
      congr 1
      rw [List.getElem?_eq_getElem (show k < numsB.length from hlt)] at hb
      exact Option.some.inj hb
    refine ixS_of (bs := numsB) rfl hb ?_
    rw [hd, Lib.indexByte] at he
    refine cond_of (fun h => ?_) fun h => ?_
    · have h : (b.toNat : Int) = c.toNat := by simpa using h
      have : b = c := UInt8.toNat_inj.1 (by omega)
      subst this
      simp at he
      rw [he] at hK
      exact hK
    · have h : ¬ (b.toNat : Int) = c.toNat := by simpa using h
      have hne : b ≠ c := fun e => h (by rw [e])
      have hbc : (b == c) = false := by simpa using hne
      simp only [hbc, Bool.false_eq_true, if_false] at he
      rw [i64_in (by omega)]
      refine hI _ _ ⟨rfl, k + 1, by simp, by omega, ?_⟩ (by simp; omega)
      rw [he]
      by_cases h1 : Lib.indexByte (numsB.drop (k + 1)) c = -1
      · rw [h1]; rfl
      · have h2 := Lib.indexByte_ge (numsB.drop (k + 1)) c
        have h3 : (Lib.indexByte (numsB.drop (k + 1)) c == -1) = false := by simpa using h1
        simp only [h3, Bool.false_eq_true, if_false]
        rw [if_neg (by omega), if_neg h1]
        omega
  · refine cond_f (by simp; omega) ?_
    obtain rfl : k = 17 := by omega
    have : Lib.indexByte numsB c = -1 := he
    rw [this] at hK
    exact hK
theorem rnumber_spec (v : List UInt8) {K : Int → World → Prop} (hK : K (match readN v with | some n => (n : Int) | none => -1) w) : c_phosphorref19_number (strB v) w K := by
  refine call_phosphorref19_number _ ?_
  unfold sh_phosphorref19_number
  refine joinP_of fun J hJ => ?_
  have hno : readN v = none → K (-1) w := fun h => by rw [h] at hK; exact hK
  refine cond_of (fun h => hno ?_) fun h => ?_
  · rw [strB_toList] at h
    have : v = [] := by simpa [ByteArray.toList_eq] using h
    unfold readN
    rw [if_pos (.inl this)]
  have hne : v ≠ [] := by
    rw [strB_toList] at h
    simpa [ByteArray.toList_eq] using h
  rw [strB_size]
  refine cond_of (fun h => hno ?_) fun h10 => ?_
  · have h : (10 : Int) < v.length := of_decide_eq_true h
    unfold readN
    rw [if_pos (.inr (by omega))]
  have h10 := of_decide_eq_false h10
  have hlen : v.length ≤ 10 := by omega
  have hread : readN v = (readD 0 v).bind fun n => if n ≤ 4294967295 then some n else none := by unfold readN; rw [if_neg (by intro hh; rcases hh with hh | hh; exact hne hh; omega)]
  refine hJ _ _ ?_
  refine loopP_rule (fun (s : Int × Int × Unit) w2 => w2 = w ∧ ∃ k m : Nat, s.2.1 = k ∧ s.1 = m ∧ k ≤ v.length ∧ m < 10 ^ k ∧ readD 0 v = readD m (v.drop k)) (fun s => v.length - s.2.1.toNat) ⟨rfl, 0, 0, rfl, rfl, Nat.zero_le _, by omega, rfl⟩ ?_
  rintro ⟨a, b, u⟩ _ ⟨rfl, k, m, hb, ha, hk, hm, hr⟩ I hI
  dsimp only at ha hb ⊢
  subst ha hb
  have hp10 : ∀ j, j ≤ 10 → 10 ^ j ≤ 10000000000 := fun j hj => Nat.pow_le_pow_right (by omega) hj
  by_cases hlt : k < v.length
  · refine cond_t (by simp [strB_size]; omega) (joinP_of fun J3 hJ3 => ?_)
    have hx : v[k]? = some v[k] := by simp [hlt]
    rw [List.drop_eq_getElem_cons hlt, readD] at hr
    refine ixS_of rfl hx ?_
    have hnone : (v[k] < 48 ∨ 57 < v[k]) → readN v = none := fun hh => by rw [hread, hr, if_pos hh]; rfl
    refine cond_of (fun h => hno (hnone (.inl ?_))) fun h1 => ?_
    · have h := of_decide_eq_true h
      show (v[k]).toNat < (48 : UInt8).toNat
      have : (48 : UInt8).toNat = 48 := rfl
      omega
    refine ixS_of rfl hx ?_
    refine cond_of (fun h => hno (hnone (.inr ?_))) fun h2 => ?_
    · have h := of_decide_eq_true h
      show (57 : UInt8).toNat < (v[k]).toNat
      have : (57 : UInt8).toNat = 57 := rfl
      omega
    have h1 := of_decide_eq_false h1
    have h2 := of_decide_eq_false h2
    have hd : ¬(v[k] < 48 ∨ 57 < v[k]) := by
      rintro (hh | hh)
      · have : (v[k]).toNat < (48 : UInt8).toNat := hh
        have : (48 : UInt8).toNat = 48 := rfl
        omega
      · have : (57 : UInt8).toNat < (v[k]).toNat := hh
        have : (57 : UInt8).toNat = 57 := rfl
        omega
    obtain ⟨hv1, hv2⟩ := digit_val hd
    rw [if_neg hd] at hr
    refine hJ3 _ _ (ixS_of rfl hx ?_)
    rw [hv1]
    have hb10 := hp10 (k + 1) (by omega)
    have hps : 10 ^ (k + 1) = 10 ^ k * 10 := Nat.pow_succ _ _
    rw [show (10 : Int) * (m : Int) = ((10 * m : Nat) : Int) by omega, wrap_nat .i64 (by show _ < 2 ^ 63; omega), show ((10 * m : Nat) : Int) + ((v[k].toNat - 48 : Nat) : Int) = ((10 * m + (v[k].toNat - 48) : Nat) : Int) by omega, wrap_nat .i64 (by show _ < 2 ^ 63; omega), i64_in (by omega)]
    exact hI _ _ ⟨rfl, k + 1, _, by simp, rfl, by omega, by omega, hr⟩ (by simp; omega)
  · refine cond_f (by simp [strB_size]; omega) ?_
    obtain rfl : k = v.length := by omega
    rw [List.drop_of_length_le (Nat.le_refl _), readD] at hr
    refine cond_of (fun h => hno ?_) fun h => ?_
    · have h : (4294967295 : Int) < m := of_decide_eq_true h
      rw [hread, hr, Option.bind_some, if_neg (by omega)]
    · have h : ¬ (4294967295 : Int) < m := of_decide_eq_false h
      have : readN v = some m := by rw [hread, hr, Option.bind_some, if_pos (by omega)]
      rw [this] at hK
      exact hK
end
end Go.Proofs.YtpadlibcalomnaaDoor
