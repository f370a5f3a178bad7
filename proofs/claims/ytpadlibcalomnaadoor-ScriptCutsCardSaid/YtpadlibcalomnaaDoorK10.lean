/- The document's May and Text. -/
import Derived.Test.YtpadlibcalomnaaDoorK9
set_option linter.unusedVariables false
namespace Go.Proofs.YtpadlibcalomnaaDoor
open Go.Vc Go.RowKit
set_option maxRecDepth 400000
section
variable {w : World}
theorem rMay_spec {k : T_keys_Keys} {K : Bool → World → Prop} (hK : ∀ w', Below w.heap.size w w' → K (mayL (toL k)) w') : c_phosphorref19_May k w K := by
  refine call_phosphorref19_May _ ?_
  unfold sh_phosphorref19_May
  refine nwK fun w1 hk1 hB1 hs1 => ?_
  obtain ⟨L, hL⟩ : ∃ L, toL k = L := ⟨_, rfl⟩
  have hk1 : KR w1 w.heap.size L := by rw [← hL]; exact hk1
  rw [hL] at hK
  have hcl : ∀ {w2 : World} (i : Nat), KR w2 w.heap.size L → i < 4 → w2.cell? ((⟨w.heap.size, 0, none⟩ : Addr).add i) = some (.int .u8 (L[i]?.getD 0)) := fun i hk hi => by
    have := hk.cell (j := i) (by omega)
    rw [add_mk, Nat.zero_add, this]
    unfold cellK
    rw [if_pos hi]
  refine ldI_of (hcl 0 hk1 (by omega)) (ldI_of (hcl 1 hk1 (by omega)) (ldI_of (hcl 2 hk1 (by omega)) (ldI_of (hcl 3 hk1 (by omega)) ?_)))
  refine nw_blk fun w2 hb2 hB2 hs2 => ?_
  have hk2 := hk1.ext hB2
  have hB12 := hB1.trans (hB2.mono (by omega))
  have hsg : ∀ m : Nat, m < 4 → w2.cell? ((⟨w1.heap.size, 0, none⟩ : Addr).add ((m : Int).toNat * 1)) = some (.int .u8 (L[m]?.getD 0)) := fun m hm => by
    rw [Nat.mul_one, Int.toNat_natCast, add_mk, Nat.zero_add]
    have : m = 0 ∨ m = 1 ∨ m = 2 ∨ m = 3 := by omega
    rcases this with rfl | rfl | rfl | rfl <;> exact hb2.cell _ rfl
  refine loopP_rule (fun (s : Int × Unit) w3 => w3 = w2 ∧ ∃ i : Nat, s.1 = i ∧ i ≤ 4 ∧ ∀ j, j < i → fieldOk j (L[j]?.getD 0) = true) (fun s => 4 - s.1.toNat)
    ⟨rfl, 0, rfl, by omega, fun j hj => by omega⟩ ?_
  rintro ⟨i, u⟩ w3 ⟨rfl, m, hi, hm, hok⟩ I hI
  dsimp only at hi ⊢
  subst hi
  by_cases hlt : m < 4
  · refine cond_t (by simp; omega) ?_
    have hix : 0 ≤ (m : Int) ∧ (m : Int) < (4 : Nat) := ⟨by omega, by omega⟩
    have hcell := hsg m hlt
    obtain ⟨x, hx⟩ : ∃ x, L[m]?.getD 0 = x := ⟨_, rfl⟩
    rw [hx] at hcell
    refine ⟨hix, ldI_of (x := x) hcell ?_⟩
    have hfo : fieldOk m x = signOk m x := by unfold fieldOk; rw [if_pos hlt]
    have hno : fieldOk m x = false → K false w3 := fun hf => by
      have := hK w3 hB12
      rwa [mayL_false (i := m) (by omega) (by rw [hx]; exact hf)] at this
    have hgo : fieldOk m x = true → I ((IntKind.i64.wrap ((m : Int) + (1 : Int))), ()) w3 := fun hf => by
      rw [i64_in (by omega)]
      refine hI _ _ ⟨rfl, m + 1, by simp, by omega, fun j hj => ?_⟩ (by simp; omega)
      by_cases e : j = m
      · subst e; rw [hx]; exact hf
      · exact hok j (by omega)
    have hvis : ¬ (x = 0 ∧ m = 2) → (0 ≤ (m : Int) ∧ (m : Int) < (4 : Nat)) ∧ ldI .u8 ((⟨w1.heap.size, 0, none⟩ : Addr).add ((m : Int).toNat * 1)) w3 fun t32 => cond (decide (t32 < (33 : Int))) (K false w3)
        ((0 ≤ (m : Int) ∧ (m : Int) < (4 : Nat)) ∧ ldI .u8 ((⟨w1.heap.size, 0, none⟩ : Addr).add ((m : Int).toNat * 1)) w3 fun t38 => cond (decide (t38 > (126 : Int))) (K false w3)
          ((0 ≤ (m : Int) ∧ (m : Int) < (4 : Nat)) ∧ ldI .u8 ((⟨w1.heap.size, 0, none⟩ : Addr).add ((m : Int).toNat * 1)) w3 fun t45 => cond (t45 == (44 : Int)) (K false w3) (I ((IntKind.i64.wrap ((m : Int) + (1 : Int))), ()) w3))) := by
      intro hz
      have hs : signOk m x = (decide (33 ≤ x) && decide (x ≤ 126) && decide (x ≠ 44)) := by
        unfold signOk
        by_cases e : x = 0
        · rw [decide_eq_false (p := m = 2) fun hh => hz ⟨e, hh⟩]; simp
        · rw [decide_eq_false e]; simp
      rw [hfo, hs] at hno hgo
      refine ⟨hix, ldI_of (x := x) hcell (cond_of (fun h => hno ?_) fun h1 => ?_)⟩
      · have h : x < 33 := of_decide_eq_true h
        rw [decide_eq_false (p := 33 ≤ x) (by omega)]; rfl
      have h1 : ¬ x < 33 := of_decide_eq_false h1
      refine ⟨hix, ldI_of (x := x) hcell (cond_of (fun h => hno ?_) fun h2 => ?_)⟩
      · have h : (126 : Int) < x := of_decide_eq_true h
        rw [decide_eq_false (p := x ≤ 126) (by omega), Bool.and_false]; rfl
      have h2 : ¬ (126 : Int) < x := of_decide_eq_false h2
      refine ⟨hix, ldI_of (x := x) hcell (cond_of (fun h => hno ?_) fun h3 => hgo ?_)⟩
      · have h : x = 44 := by simpa using h
        rw [decide_eq_false (p := x ≠ 44) (fun hh => hh h), Bool.and_false]
      have h3 : ¬ x = 44 := by simpa using h3
      rw [decide_eq_true (by omega), decide_eq_true (by omega), decide_eq_true h3]; rfl
    refine cond_of (fun h0 => hvis ?_) fun h0 => ?_
    · have : x ≠ 0 := by simpa using h0
      exact fun hh => this hh.1
    · have h0 : x = 0 := by simpa using h0
      refine cond_of (fun h2 => hvis ?_) fun h2 => hgo ?_
      · rintro ⟨_, rfl⟩
        exact absurd h2 (by decide)
      · have hm2 : m = 2 := by
          have : (m : Int) = 2 := by simpa using h2
          omega
        rw [hfo, h0, hm2]
        decide
  · refine cond_f (by simp; omega) ?_
    obtain rfl : m = 4 := by omega
    refine loopP_rule (fun (s : Int × Unit) w6 => ∃ i : Nat, s.1 = i ∧ i ≤ 17 ∧ KR w6 w.heap.size L ∧ Below w.heap.size w w6 ∧ ∀ j, j < i → fieldOk (numPos j) (L[numPos j]?.getD 0) = true) (fun s => 17 - s.1.toNat)
      ⟨0, rfl, by omega, hk2, hB12, fun j hj => by omega⟩ ?_
    rintro ⟨i, u⟩ w6 ⟨j, hi, hj, hk6, hB6, hok6⟩ I2 hI2
    dsimp only at hi ⊢
    subst hi
    by_cases hlt6 : j < 17
    · refine cond_t (by simp; omega) ?_
      have hk6' : KR w6 w.heap.size (toL k) := by rw [hL]; exact hk6
      refine ldS_of (x := k) hk6'.cellsT (get_spec hlt6 fun w7 hB7 => ?_)
      rw [hL]
      have hk7 := hk6.ext hB7
      have hB7' := hB6.trans (hB7.mono hB6.size)
      have hp := numPos_lt hlt6
      obtain ⟨x, hx⟩ : ∃ x, L[numPos j]?.getD 0 = x := ⟨_, rfl⟩
      rw [hx]
      have h20 : numPos j ≠ 20 := by unfold numPos; split <;> omega
      have hfo : fieldOk (numPos j) x = (decide (0 ≤ x) && decide (x ≤ 4294967295)) := by unfold fieldOk; rw [if_neg hp.2, if_neg h20]
      have hno : ∀ {w8 : World}, Below w.heap.size w w8 → fieldOk (numPos j) x = false → K false w8 := fun hB hf => by
        have := hK _ hB
        rwa [mayL_false (i := numPos j) hp.1 (by rw [hx]; exact hf)] at this
      refine cond_of (fun h0 => hno hB7' ?_) fun h0 => ?_
      · have h0 : x < 0 := of_decide_eq_true h0
        rw [hfo, decide_eq_false (by omega)]
        rfl
      have hk7' : KR w7 w.heap.size (toL k) := by rw [hL]; exact hk7
      refine ldS_of (x := k) hk7'.cellsT (get_spec hlt6 fun w8 hB8 => ?_)
      rw [hL, hx]
      have hk8 := hk7.ext hB8
      have hB8' := hB7'.trans (hB8.mono hB7'.size)
      refine cond_of (fun h1 => hno hB8' ?_) fun h1 => ?_
      · have h1 : (4294967295 : Int) < x := of_decide_eq_true h1
        rw [hfo, decide_eq_false (p := x ≤ 4294967295) (by omega), Bool.and_false]
      have h0 : ¬ x < 0 := of_decide_eq_false h0
      have h1 : ¬ (4294967295 : Int) < x := of_decide_eq_false h1
      rw [i64_in (by omega)]
      refine hI2 _ _ ⟨j + 1, by simp, by omega, hk8, hB8', fun j' hj' => ?_⟩ (by simp; omega)
      by_cases e : j' = j
      · subst e; rw [hx, hfo, decide_eq_true (by omega), decide_eq_true (by omega)]; rfl
      · exact hok6 j' (by omega)
    · refine cond_f (by simp; omega) ?_
      obtain rfl : j = 17 := by omega
      obtain ⟨x, hx⟩ : ∃ x, L[20]?.getD 0 = x := ⟨_, rfl⟩
      have hcell := hk6.cell (j := 20) (by omega)
      rw [hx] at hcell
      have hall : fieldOk 20 x = true → mayL L = true := fun h20 => mayL_true fun i hi => by
        by_cases h4 : i < 4
        · exact hok i h4
        by_cases h2 : i = 20
        · subst h2; rw [hx]; exact h20
        by_cases h3 : i = 21
        · subst h3; exact hok6 16 (by omega)
        · have := hok6 (i - 4) (by omega)
          have e : numPos (i - 4) = i := by unfold numPos; rw [if_neg (by omega)]; omega
          rwa [e] at this
      have hKw := hK w6 hB6
      have hmay : mayL L = fieldOk 20 x := by
        cases hf : fieldOk 20 x with
        | true => exact hall hf
        | false => exact mayL_false (i := 20) (by omega) (by rw [hx]; exact hf)
      rw [hmay] at hKw
      have hfo : fieldOk 20 x = (decide (-1073741824 ≤ x) && decide (x < 1073741824)) := rfl
      rw [hfo] at hKw
      refine ldI_of (x := x) (by rw [add_mk]; exact hcell) (cond_of (fun h0 => ?_) fun h0 => ?_)
      · refine ldI_of (x := x) (by rw [add_mk]; exact hcell) ?_
        rw [show decide ((-1073741824 : Int) ≤ x) = true from h0] at hKw
        exact hKw
      · rw [show decide ((-1073741824 : Int) ≤ x) = false from h0] at hKw
        exact hKw
end
end Go.Proofs.YtpadlibcalomnaaDoor
