/- The document's graphics keys: one, Parse. -/
import Derived.Test.YtpadlibcalomnaaDoorK8
set_option linter.unusedVariables false
namespace Go.Proofs.YtpadlibcalomnaaDoor
open Go.Vc Go.RowKit
set_option maxRecDepth 400000

theorem u8_ne {c : UInt8} (n : Nat) (hn : n < 256) : ((c.toNat : Int) == (n : Int)) = decide (c = UInt8.ofNat n) := by
  have h1 : (UInt8.ofNat n).toNat = n := by simp; omega
  by_cases h : c = UInt8.ofNat n
  · subst h; rw [h1]; simp
  · rw [decide_eq_false h]
    have : c.toNat ≠ n := fun e => h (UInt8.toNat_inj.1 (by omega))
    simp; omega
section
variable {w : World} {L : List Int}
theorem rsign_spec {k : T_keys_Keys} {c : UInt8} {j : Nat} (hc : signIx c = some j) (v : List UInt8) {K : T_keys_Keys → Bool → World → Prop} (hK : ∀ t b w', Below w.heap.size w w' → (b = true → sgnL (toL k) j v = some (toL t)) → (b = false → sgnL (toL k) j v = none) → K t b w') : c_phosphorref19_sign k (c.toNat : Int) (strB v) w K := by
  refine call_phosphorref19_sign _ _ _ ?_
  unfold sh_phosphorref19_sign
  refine nwK fun w1 hk hB1 hs1 => nwZ fun w2 hz hB2 hs2 => ?_
  have hk2 := hk.ext hB2
  have hB12 := hB1.trans (hB2.mono (by omega))
  refine joinP_of fun J1 hJ1 => joinP_of fun J2 hJ2 => ?_
  have hno : sgnL (toL k) j v = none → ∀ b, b = true → J2 (b, ()) w2 := fun hn b hb => hJ2 _ _ (cond_t hb (ret_spec hk2 hz fun w4 hc4 hs4 => hK _ false w4 (hB12.trans (hc4.below (by omega) fun i hi e => by omega)) (fun e => by cases e) fun _ => hn))
  rcases v with _ | ⟨b, _ | ⟨b', v'⟩⟩
  · exact cond_t (by simp [strB_size]) (hno rfl _ rfl)
  rotate_left
  · exact cond_t (by simp [strB_size]; omega) (hno rfl _ rfl)
  refine cond_f (by simp [strB_size]) (ixS_of (k := 0) (b := b) rfl rfl ?_)
  have e1 : decide ((b.toNat : Int) < 33) = !decide ((33 : UInt8) ≤ b) := by
    have := u8_ge (b := b) 33 (by omega)
    have e : decide ((b.toNat : Int) < 33) = !decide ((b.toNat : Int) ≥ ((33 : Nat) : Int)) := by
      by_cases h : (b.toNat : Int) < 33
      · rw [decide_eq_true h, decide_eq_false (by omega)]; rfl
      · rw [decide_eq_false h, decide_eq_true (by omega)]; rfl
    rw [e, this]; rfl
  have e2 : decide ((b.toNat : Int) > 126) = !decide (b ≤ (126 : UInt8)) := by
    have := u8_le (b := b) 126 (by omega)
    have e : decide ((b.toNat : Int) > 126) = !decide ((b.toNat : Int) ≤ ((126 : Nat) : Int)) := by
      by_cases h : (b.toNat : Int) > 126
      · rw [decide_eq_true h, decide_eq_false (by omega)]; rfl
      · rw [decide_eq_false h, decide_eq_true (by omega)]; rfl
    rw [e, this]; rfl
  rw [e1]
  have hs : sgnL (toL k) j [b] = if visB b then some ((toL k).set j (b.toNat : Int)) else none := rfl
  refine cond_of (fun h => hno ?_ _ rfl) fun h => ?_
  · rw [hs]
    unfold visB
    have : decide ((33 : UInt8) ≤ b) = false := by simpa using h
    rw [this]
    rfl
  have h33 : decide ((33 : UInt8) ≤ b) = true := by simpa using h
  refine ixS_of (k := 0) (b := b) rfl rfl ?_
  rw [e2]
  cases h126 : decide (b ≤ (126 : UInt8)) with
  | false =>
    refine hno ?_ _ rfl
    rw [hs]
    unfold visB
    rw [h126, Bool.and_false]
    rfl
  | true =>
    have hvis : visB b = true := by unfold visB; rw [h33, h126]; rfl
    rw [hvis, if_pos rfl] at hs
    refine hJ2 _ _ (cond_f rfl (hJ1 _ _ ?_))
    have key : ∀ i : Nat, i < 4 → i = j → stK ((⟨w.heap.size, 0, none⟩ : Addr).add i) [(.int .u8 (b.toNat : Int))] w2 fun w3 => ldS T_keys_Keys.rep ⟨w.heap.size, 0, none⟩ w3 fun t => stK ⟨w1.heap.size, 0, none⟩ (T_keys_Keys.rep.cells t) w3 fun w4 => ldS T_keys_Keys.rep ⟨w1.heap.size, 0, none⟩ w4 fun r => K r true w4 := by
      rintro i h4 rfl
      rw [add_mk, Nat.zero_add]
      refine hk2.st (j := i) (by omega) (v := (b.toNat : Int)) (by unfold cellK; rw [if_pos h4]) fun w3 hk3 hc3 hs3 => ?_
      refine ret_spec hk3 (hz.chg hc3 (by omega)) fun w4 hc4 hs4 => hK _ true w4 ((hB12.trans (hc3.below (by omega) fun i hi e => by omega)).trans (hc4.below (by omega) fun i hi e => by omega)) (fun _ => ?_) fun e => by cases e
      rw [hs, list22 hk3.len]
    have q97 : ((c.toNat : Int) == 97) = decide (c = 97) := u8_ne 97 (by omega)
    have q116 : ((c.toNat : Int) == 116) = decide (c = 116) := u8_ne 116 (by omega)
    have q111 : ((c.toNat : Int) == 111) = decide (c = 111) := u8_ne 111 (by omega)
    have q100 : ((c.toNat : Int) == 100) = decide (c = 100) := u8_ne 100 (by omega)
    rw [q97]
    by_cases h1 : c = 97
    · subst h1
      have : j = 0 := by have e : signIx 97 = some 0 := by decide
                         rw [e] at hc; exact (Option.some.inj hc).symm
      exact cond_t (by decide) (ixS_of (k := 0) (b := b) rfl rfl (key 0 (by omega) this.symm))
    refine cond_f (decide_eq_false h1) ?_
    rw [q116]
    by_cases h2 : c = 116
    · subst h2
      have : j = 1 := by have e : signIx 116 = some 1 := by decide
                         rw [e] at hc; exact (Option.some.inj hc).symm
      exact cond_t (by decide) (ixS_of (k := 0) (b := b) rfl rfl (key 1 (by omega) this.symm))
    refine cond_f (decide_eq_false h2) ?_
    rw [q111]
    by_cases h3 : c = 111
    · subst h3
      have : j = 2 := by have e : signIx 111 = some 2 := by decide
                         rw [e] at hc; exact (Option.some.inj hc).symm
      exact cond_t (by decide) (ixS_of (k := 0) (b := b) rfl rfl (key 2 (by omega) this.symm))
    refine cond_f (decide_eq_false h3) ?_
    rw [q100]
    have h4 : c = 100 := by
      have hm : ∀ n, n < 256 → (signIx (UInt8.ofNat n)).isSome = true → UInt8.ofNat n = 97 ∨ UInt8.ofNat n = 116 ∨ UInt8.ofNat n = 111 ∨ UInt8.ofNat n = 100 := by decide +kernel
      have := all256 (P := fun c => (signIx c).isSome = true → c = 97 ∨ c = 116 ∨ c = 111 ∨ c = 100) hm c (by rw [hc]; rfl)
      rcases this with h | h | h | h
      · exact absurd h h1
      · exact absurd h h2
      · exact absurd h h3
      · exact h
    subst h4
    have : j = 3 := by have e : signIx 100 = some 3 := by decide
                       rw [e] at hc; exact (Option.some.inj hc).symm
    exact cond_t (by decide) (ixS_of (k := 0) (b := b) rfl rfl (key 3 (by omega) this.symm))
theorem sign_is (c : UInt8) : (decide (c = 97) || decide (c = 116) || decide (c = 111) || decide (c = 100)) = (signIx c).isSome := by
  have hm : ∀ n, n < 256 → (decide (UInt8.ofNat n = 97) || decide (UInt8.ofNat n = 116) || decide (UInt8.ofNat n = 111) || decide (UInt8.ofNat n = 100)) = (signIx (UInt8.ofNat n)).isSome := by decide +kernel
  exact all256 (P := fun c => (decide (c = 97) || decide (c = 116) || decide (c = 111) || decide (c = 100)) = (signIx c).isSome) hm c
theorem depth_eq (v : List UInt8) : depthL v = (readN (if v.head? = some 45 then v.drop 1 else v)).bind fun n => if v.head? = some 45 then (if n ≤ 1073741824 then some (-(n : Int)) else none) else (if n < 1073741824 then some (n : Int) else none) := by
  have hnear1 : ∀ n : Nat, (if near (-(n : Int)) then some (-(n : Int)) else none) = if n ≤ 1073741824 then some (-(n : Int)) else none := fun n => by
    unfold near
    by_cases h : n ≤ 1073741824
    · rw [if_pos h, decide_eq_true (by omega), decide_eq_true (by omega)]; rfl
    · rw [if_neg h, decide_eq_false (p := -1073741824 ≤ -(n : Int)) (by omega)]; rfl
  have hnear2 : ∀ n : Nat, (if near (n : Int) then some (n : Int) else none) = if n < 1073741824 then some (n : Int) else none := fun n => by
    unfold near
    by_cases h : n < 1073741824
    · rw [if_pos h, decide_eq_true (by omega), decide_eq_true (by omega)]; rfl
    · rw [if_neg h, decide_eq_false (p := (n : Int) < 1073741824) (by omega), Bool.and_false]; rfl
  cases v with
  | nil =>
    have : readN [] = none := by unfold readN; rfl
    rw [if_neg (by simp), this, Option.bind_none]
    unfold depthL readN
    rfl
  | cons b r =>
    by_cases h : b = 45
    · subst h
      have e : ((45 : UInt8) :: r).head? = some 45 := rfl
      simp only [if_pos e]
      show (readN r).bind _ = _
      simp only [hnear1]
      rfl
    · have hne : ¬ ((b :: r).head? = some 45) := by simpa using h
      rw [if_neg hne]
      have : depthL (b :: r) = (readN (b :: r)).bind fun n => if near (n : Int) then some (n : Int) else none := by
        unfold depthL
        split
        · rename_i r' he; cases he; exact absurd rfl h
        · rfl
      rw [this]
      simp only [hnear2, if_neg hne]
def numI : Option Nat → Int
  | some n => n
  | none => -1
theorem rnumber_eq (v : List UInt8) {K : Int → World → Prop} (hK : ∀ x, x = numI (readN v) → K x w) : c_phosphorref19_number (strB v) w K :=
  rnumber_spec v (hK _ (by cases readN v <;> rfl))
theorem rone_spec {k : T_keys_Keys} (s : List UInt8) {K : T_keys_Keys → Bool → World → Prop} (hK : ∀ t b w', Below w.heap.size w w' → (b = true → oneL (toL k) s = some (toL t)) → (b = false → oneL (toL k) s = none) → K t b w') : c_phosphorref19_one k (strB s) w K := by
  refine call_phosphorref19_one _ _ ?_
  unfold sh_phosphorref19_one
  refine nwK fun w1 hk hB1 hs1 => nwZ fun w2 hz hB2 hs2 => ?_
  have hk2 := hk.ext hB2
  have hB12 := hB1.trans (hB2.mono (by omega))
  have hret : ∀ {w3 : World} {M : List Int} {b : Bool}, KR w3 w.heap.size M → KR w3 w1.heap.size zeroL → Below w.heap.size w w3 → w2.heap.size ≤ w3.heap.size → (b = true → oneL (toL k) s = some M) → (b = false → oneL (toL k) s = none) →
      (ldS T_keys_Keys.rep ⟨w.heap.size, 0, none⟩ w3 fun t => stK ⟨w1.heap.size, 0, none⟩ (T_keys_Keys.rep.cells t) w3 fun w4 => ldS T_keys_Keys.rep ⟨w1.heap.size, 0, none⟩ w4 fun r => K r b w4) := by
    intro w3 M b hk3 hz3 hB3 hs3 h1 h0
    refine ret_spec hk3 hz3 fun w4 hc4 hs4 => hK _ b w4 (hB3.trans (hc4.below (by omega) fun i hi e => by omega)) (fun e => ?_) h0
    rw [list22 hk3.len]
    exact h1 e
  refine joinP_of fun J1 hJ1 => joinP_of fun J8 hJ8 => ?_
  have hno : oneL (toL k) s = none → ∀ b, b = true → J8 (b, ()) w2 := fun hn b hb => hJ8 _ _ (cond_t hb (hret hk2 hz hB12 (Nat.le_refl _) (fun e => by cases e) fun _ => hn))
  rcases s with _ | ⟨c, _ | ⟨e, v⟩⟩
  · exact cond_t (by simp [strB_size]) (hno rfl _ rfl)
  · exact cond_t (by simp [strB_size]) (hno rfl _ rfl)
  refine cond_f (by simp [strB_size]; omega) ?_
  refine ixS_of (k := 1) (b := e) rfl rfl ?_
  by_cases he : e = 61
  case neg =>
    refine cond_t ?_ (hno ?_ _ rfl)
    · have : e.toNat ≠ 61 := fun hh => he (UInt8.toNat_inj.1 hh)
      simp
      omega
    · unfold oneL
      dsimp only
      rw [if_pos (.inl he)]
  subst he
  refine cond_f (by decide) (ixS_of (k := 0) (b := c) rfl rfl (letter_spec c rfl ?_))
  cases hl : isLetter c with
  | false =>
    refine hno ?_ _ rfl
    unfold oneL
    dsimp only
    rw [if_pos (.inr hl)]
  | true =>
    refine hJ8 _ _ (cond_f rfl (hJ1 _ _ ?_))
    refine ixS_of (k := 0) (b := c) rfl rfl ?_
    refine slS_of (l := 2) (h := (c :: 61 :: v).length) (.inr rfl) (.inl ⟨rfl, rfl⟩) (by simp) (Nat.le_refl _) ?_
    rw [List.take_length]
    show joinP _ _
    have hv : (c :: (61 : UInt8) :: v).drop 2 = v := rfl
    rw [hv]
    have hone : oneL (toL k) (c :: 61 :: v) = if c = 122 then (depthL v).map fun m => (toL k).set 20 m
        else match signIx c with
          | some j => sgnL (toL k) j v
          | none => match numIx c with
            | some j => (readN v).map fun n => (toL k).set j (n : Int)
            | none => some (toL k) := by
      unfold oneL
      dsimp only
      rw [if_neg (by rw [hl]; simp)]
      rfl
    rw [hone] at hK
    have hret' : ∀ {w3 : World} {M : List Int} {b : Bool}, KR w3 w.heap.size M → KR w3 w1.heap.size zeroL → Below w.heap.size w w3 → w2.heap.size ≤ w3.heap.size → (b = true → (if c = 122 then (depthL v).map fun m => (toL k).set 20 m else match signIx c with | some j => sgnL (toL k) j v | none => match numIx c with | some j => (readN v).map fun n => (toL k).set j (n : Int) | none => some (toL k)) = some M) →
        (b = false → (if c = 122 then (depthL v).map fun m => (toL k).set 20 m else match signIx c with | some j => sgnL (toL k) j v | none => match numIx c with | some j => (readN v).map fun n => (toL k).set j (n : Int) | none => some (toL k)) = none) →
        (ldS T_keys_Keys.rep ⟨w.heap.size, 0, none⟩ w3 fun t => stK ⟨w1.heap.size, 0, none⟩ (T_keys_Keys.rep.cells t) w3 fun w4 => ldS T_keys_Keys.rep ⟨w1.heap.size, 0, none⟩ w4 fun r => K r b w4) := by
      intro w3 M b hk3 hz3 hB3 hs3 h1 h0
      exact hret hk3 hz3 hB3 hs3 (fun e => by rw [hone]; exact h1 e) fun e => by rw [hone]; exact h0 e
    have q97 : ((c.toNat : Int) == 97) = decide (c = 97) := u8_ne 97 (by omega)
    have q116 : ((c.toNat : Int) == 116) = decide (c = 116) := u8_ne 116 (by omega)
    have q111 : ((c.toNat : Int) == 111) = decide (c = 111) := u8_ne 111 (by omega)
    have q100 : ((c.toNat : Int) == 100) = decide (c = 100) := u8_ne 100 (by omega)
    have q122 : ((c.toNat : Int) == 122) = decide (c = 122) := u8_ne 122 (by omega)
    refine joinP_of fun J2 hJ2 => joinP_of fun J7 hJ7 => ?_
    have hj7 : J7 ((signIx c).isSome, ()) w2 → (cond ((c.toNat : Int) == (97 : Int)) (J7 (true, ()) w2) (cond ((c.toNat : Int) == (116 : Int)) (J7 (true, ()) w2) (cond ((c.toNat : Int) == (111 : Int)) (J7 (true, ()) w2) (J7 (((c.toNat : Int) == (100 : Int)), ()) w2)))) := by
      intro hj
      rw [← sign_is] at hj
      rw [q97, q116, q111, q100]
      cases h1 : decide (c = 97) <;> cases h2 : decide (c = 116) <;> cases h3 : decide (c = 111) <;> rw [h1, h2, h3] at hj <;> simpa using hj
    refine hj7 (hJ7 _ _ ?_)
    cases hs : signIx c with
    | some j =>
      have hz122 : c ≠ 122 := fun e => by subst e; rw [show signIx 122 = none by decide] at hs; cases hs
      rw [if_neg hz122, hs] at hK
      refine cond_t rfl (ldS_of (x := k) hk2.cellsT (rsign_spec hs v fun t b w21 hB21 h1 h0 => ?_))
      refine ret_of (hz.ext hB21) fun w4 hc4 hs4 => hK t b w4 ((hB12.trans (hB21.mono (by omega))).trans (hc4.below (by have := hB21.size; omega) fun i hi e => by omega)) h1 h0
    | none =>
      refine cond_f rfl (hJ2 _ _ ?_)
      rw [hs] at hret'
      rw [q122]
      by_cases hz122 : c = 122
      · rw [if_pos hz122] at hret'
        refine cond_t (decide_eq_true hz122) ?_
        rw [depth_eq] at hret'
        refine joinP_of fun J3 hJ3 => ?_
        have hj3 : J3 (decide (v.head? = some 45), ()) w2 → cond (decide (((strB v).size : Int) > (0 : Int))) (ixS (strB v) 0 fun t58 => J3 ((t58 == (45 : Int)), ()) w2) (J3 (false, ()) w2) := by
          intro hj
          cases v with
          | nil => exact cond_f (by simp [strB_size]) hj
          | cons b r =>
            refine cond_t (by simp [strB_size]) (ixS_of (k := 0) (b := b) rfl rfl ?_)
            have : ((b.toNat : Int) == 45) = decide (b = 45) := u8_ne 45 (by omega)
            rw [this]
            have e : decide ((b :: r).head? = some 45) = decide (b = 45) := by simp
            rwa [e] at hj
        refine hj3 (hJ3 _ _ ?_)
        have hmain : ∀ (f : Bool) (rest : List UInt8), f = decide (v.head? = some 45) → rest = (if v.head? = some 45 then v.drop 1 else v) → (joinP (σ := ByteArray × Unit) (fun s_4 w6 =>
             c_phosphorref19_number s_4.1 w6 fun t65 w7 =>
             joinP (σ := Unit) (fun s_5 w8 =>
               stK ((⟨w.heap.size, 0, none⟩ : Addr).add 20) [(.int .i64 t65)] w8 fun w9 =>
               cond f
                 (stK ((⟨w.heap.size, 0, none⟩ : Addr).add 20) [(.int .i64 (IntKind.i64.wrap ((0 : Int) - t65)))] w9 fun w10 =>
                  ldS T_keys_Keys.rep ⟨w.heap.size, 0, none⟩ w10 fun t90 =>
                  stK ⟨w1.heap.size, 0, none⟩ (T_keys_Keys.rep.cells t90) w10 fun w11 =>
                  ldS T_keys_Keys.rep ⟨w1.heap.size, 0, none⟩ w11 fun r =>
                  K r true w11)
                 (ldS T_keys_Keys.rep ⟨w.heap.size, 0, none⟩ w9 fun t90_1 =>
                  stK ⟨w1.heap.size, 0, none⟩ (T_keys_Keys.rep.cells t90_1) w9 fun w12 =>
                  ldS T_keys_Keys.rep ⟨w1.heap.size, 0, none⟩ w12 fun r_1 =>
                  K r_1 true w12)) fun J5 =>
             joinP (σ := Bool × Unit) (fun s_6 w13 =>
               cond s_6.1
                 (ldS T_keys_Keys.rep ⟨w.heap.size, 0, none⟩ w13 fun t83 =>
                  stK ⟨w1.heap.size, 0, none⟩ (T_keys_Keys.rep.cells t83) w13 fun w14 =>
                  ldS T_keys_Keys.rep ⟨w1.heap.size, 0, none⟩ w14 fun r_2 =>
                  K r_2 false w14)
                 (J5 (()) w13)) fun J6 =>
             cond (decide (t65 < (0 : Int)))
               (J6 (true, ()) w7)
               (cond f
                  (cond (decide (t65 > (1073741824 : Int)))
                     (J6 (true, ()) w7)
                     (cond (!f)
                        (J6 ((decide (t65 ≥ (1073741824 : Int))), ()) w7)
                        (J6 (false, ()) w7)))
                  (cond (!f)
                     (J6 ((decide (t65 ≥ (1073741824 : Int))), ()) w7)
                     (J6 (false, ()) w7)))) fun J4 => J4 (strB rest, ()) w2) := by
          intro f rest hf hrest
          rw [← hrest] at hret'
          refine joinP_of fun J4 hJ4 => hJ4 _ _ (rnumber_eq rest fun x hx => ?_)
          refine joinP_of fun J5 hJ5 => joinP_of fun J6 hJ6 => ?_
          have hz20 : ∀ x : Int, Value.int .i64 x = cellK 20 x := fun x => by unfold cellK; rw [if_neg (by omega)]
          have hbad : ((readN rest).bind fun n => if v.head? = some 45 then (if n ≤ 1073741824 then some (-(n : Int)) else none) else (if n < 1073741824 then some (n : Int) else none)) = none → ∀ b, b = true → J6 (b, ()) w2 := fun hn b hb => hJ6 _ _ (cond_t hb (hret' hk2 hz hB12 (Nat.le_refl _) (fun e => by cases e) fun _ => by rw [hn]; rfl))
          cases hr : readN rest with
          | none =>
            have hx : x = (-1 : Int) := by rw [hr] at hx; exact hx
            subst hx
            exact cond_t (by decide) (hbad (by rw [hr]; rfl) _ rfl)
          | some n =>
            have hx : x = (n : Int) := by rw [hr] at hx; exact hx
            subst hx
            rw [hr, Option.bind_some] at hbad
            rw [hr, Option.bind_some] at hret'
            refine cond_f (by simp) ?_
            have hnb : n ≤ 4294967295 := by
              unfold readN at hr
              split at hr
              · cases hr
              · cases hd : readD 0 rest with
                | none => rw [hd] at hr; cases hr
                | some m =>
                  rw [hd, Option.bind_some] at hr
                  split at hr
                  · rename_i h; cases hr; exact h
                  · cases hr
            by_cases h45 : v.head? = some 45
            · rw [decide_eq_true h45] at hf
              subst hf
              simp only [if_pos h45] at hbad hret'
              refine cond_t rfl (cond_of (fun h => hbad ?_ _ rfl) fun h => ?_)
              · have h : (1073741824 : Int) < n := of_decide_eq_true h
                rw [if_neg (by omega)]
              · have h : ¬ (1073741824 : Int) < n := of_decide_eq_false h
                refine cond_f rfl (hJ6 _ _ (cond_f rfl (hJ5 _ _ ?_)))
                rw [add_mk, Nat.zero_add]
                refine hk2.st (j := 20) (by omega) (v := (n : Int)) (hz20 _) fun w9 hk9 hc9 hs9 => cond_t rfl ?_
                refine hk9.st (j := 20) (by omega) (v := -(n : Int)) (by rw [i64_in (by omega), ← hz20]; congr 1; omega) fun w10 hk10 hc10 hs10 => ?_
                refine hret' hk10 ((hz.chg hc9 (by omega)).chg hc10 (by omega)) ((hB12.trans (hc9.below (by omega) fun i hi e => by omega)).trans (hc10.below (by omega) fun i hi e => by omega)) (by omega) (fun _ => ?_) fun e => by cases e
                rw [if_pos (by omega), List.set_set]
                rfl
            · rw [decide_eq_false h45] at hf
              subst hf
              simp only [if_neg h45] at hbad hret'
              refine cond_f rfl (cond_t rfl ?_)
              by_cases h : n < 1073741824
              · rw [decide_eq_false (by omega)]
                refine hJ6 _ _ (cond_f rfl (hJ5 _ _ ?_))
                rw [add_mk, Nat.zero_add]
                refine hk2.st (j := 20) (by omega) (v := (n : Int)) (hz20 _) fun w9 hk9 hc9 hs9 => cond_f rfl ?_
                refine hret' hk9 (hz.chg hc9 (by omega)) (hB12.trans (hc9.below (by omega) fun i hi e => by omega)) (by omega) (fun _ => ?_) fun e => by cases e
                rw [if_pos h]
                rfl
              · refine hbad (by rw [if_neg h]) _ (decide_eq_true (by omega))
        by_cases h45 : v.head? = some 45
        · have hm := hmain true (v.drop 1) (decide_eq_true h45).symm (by rw [if_pos h45])
          rw [decide_eq_true h45]
          intro J4 hJ4
          have := hm J4 hJ4
          refine cond_t rfl (slS_of (l := 1) (h := v.length) (.inr rfl) (.inl ⟨rfl, rfl⟩) (by cases v with | nil => cases h45 | cons b r => simp) (Nat.le_refl _) ?_)
          rw [List.take_length]
          exact this
        · have hm := hmain false v (decide_eq_false h45).symm (by rw [if_neg h45])
          rw [decide_eq_false h45]
          intro J4 hJ4
          exact cond_f rfl (hm J4 hJ4)
      · rw [if_neg hz122] at hret' hK
        rw [hs] at hK
        refine cond_f (decide_eq_false hz122) (place_spec c rfl ?_)
        rcases num_facts c with h | ⟨j, hj, hlt, hn⟩
        · refine cond_t (by simpa using h) ?_
          have hn : numIx c = none := by unfold numIx; rw [if_pos h]
          rw [hn] at hret'
          exact hret' hk2 hz hB12 (Nat.le_refl _) (fun _ => rfl) fun e => by cases e
        · rw [hj]
          rw [hn] at hK
          refine cond_f (by simp) (rnumber_spec v (ldS_of (x := k) hk2.cellsT (with_spec hlt fun w18 hB18 => ?_)))
          refine ret_of (hz.ext hB18) fun w4 hc4 hs4 => hK _ _ w4 ((hB12.trans (hB18.mono (by omega))).trans (hc4.below (by have := hB18.size; omega) fun i hi e => by omega)) ?_ ?_
          · intro hge
            cases hr : readN v with
            | none => rw [hr] at hge; exact absurd hge (by decide)
            | some n =>
              rw [list22 (by rw [List.length_set]; rfl)]
              rfl
          · intro hge
            cases hr : readN v with
            | none => rfl
            | some n => rw [hr] at hge; exact absurd hge (by simp)
end
end Go.Proofs.YtpadlibcalomnaaDoor
