/- The program's graphics keys: their memory, the parts of a command, Parse. -/
import Derived.Test.YtpadlibcalomnaaDoorK1
import Derived.Test.YtpadlibcalomnaaDoorStrB
set_option linter.unusedVariables false
namespace Go.Proofs.YtpadlibcalomnaaDoor
open Go.Vc Go.RowKit
set_option maxRecDepth 400000

def cellK (i : Nat) (x : Int) : Value := if i < 4 then .int .u8 x else .int .i64 x
def cellsF : Nat → List Int → List Value
  | _, [] => []
  | i, x :: r => cellK i x :: cellsF (i + 1) r
def cellsK (L : List Int) : List Value := cellsF 0 L
def toL (k : T_keys_Keys) : List Int := [k.Action, k.Medium, k.Zip, k.What, k.Quiet, k.Format, k.W, k.H, k.Id, k.Number, k.Place, k.More, k.X, k.Y, k.PW, k.PH, k.DX, k.DY, k.Rows, k.Cols, k.Z, k.Stay]
def ofL (L : List Int) : T_keys_Keys := ⟨L.getD 0 0, L.getD 1 0, L.getD 2 0, L.getD 3 0, L.getD 4 0, L.getD 5 0, L.getD 6 0, L.getD 7 0, L.getD 8 0, L.getD 9 0, L.getD 10 0, L.getD 11 0, L.getD 12 0, L.getD 13 0, L.getD 14 0, L.getD 15 0, L.getD 16 0, L.getD 17 0, L.getD 18 0, L.getD 19 0, L.getD 20 0, L.getD 21 0⟩
theorem ofL_toL (k : T_keys_Keys) : ofL (toL k) = k := rfl
theorem toL_len (k : T_keys_Keys) : (toL k).length = 22 := rfl
theorem toL_cells (k : T_keys_Keys) : T_keys_Keys.rep.cells k = cellsK (toL k) := rfl
theorem list22 {L : List Int} (h : L.length = 22) : toL (ofL L) = L := by
  refine List.ext_getElem? fun i => ?_
  by_cases hi : i < 22
  · have e : ∀ j, j < 22 → L[j]? = some (L.getD j 0) := fun j hj => by rw [List.getD_eq_getElem?_getD, List.getElem?_eq_getElem (by omega)]; rfl
    rw [e i hi]
    have : i = 0 ∨ i = 1 ∨ i = 2 ∨ i = 3 ∨ i = 4 ∨ i = 5 ∨ i = 6 ∨ i = 7 ∨ i = 8 ∨ i = 9 ∨ i = 10 ∨ i = 11 ∨ i = 12 ∨ i = 13 ∨ i = 14 ∨ i = 15 ∨ i = 16 ∨ i = 17 ∨ i = 18 ∨ i = 19 ∨ i = 20 ∨ i = 21 := by omega
    rcases this with rfl | rfl | rfl | rfl | rfl | rfl | rfl | rfl | rfl | rfl | rfl | rfl | rfl | rfl | rfl | rfl | rfl | rfl | rfl | rfl | rfl | rfl <;> rfl
  · rw [List.getElem?_eq_none (by rw [toL_len]; omega), List.getElem?_eq_none (by omega)]
theorem ofL_cells {L : List Int} (h : L.length = 22) : T_keys_Keys.rep.cells (ofL L) = cellsK L := by rw [toL_cells, list22 h]
theorem cellsF_get : ∀ (L : List Int) (i j : Nat), (cellsF i L)[j]? = L[j]?.map (cellK (i + j))
  | [], i, j => by simp [cellsF]
  | x :: r, i, 0 => rfl
  | x :: r, i, j + 1 => by
    rw [cellsF, List.getElem?_cons_succ, cellsF_get r (i + 1) j, List.getElem?_cons_succ, show i + 1 + j = i + (j + 1) by omega]
theorem cellsF_set : ∀ (L : List Int) (i j : Nat) (v : Int), (cellsF i L).set j (cellK (i + j) v) = cellsF i (L.set j v)
  | [], i, j, v => rfl
  | x :: r, i, 0, v => rfl
  | x :: r, i, j + 1, v => by
    rw [cellsF, List.set_cons_succ, List.set_cons_succ, cellsF, show i + (j + 1) = i + 1 + j by omega, cellsF_set r (i + 1) j v]
theorem cellsK_get {L : List Int} (h : L.length = 22) {j : Nat} (hj : j < 22) : (cellsK L)[j]? = some (cellK j (L[j]?.getD 0)) := by
  unfold cellsK
  rw [cellsF_get, List.getElem?_eq_getElem (show j < L.length by omega), Nat.zero_add]
  rfl
theorem cellsK_len (L : List Int) : (cellsK L).length = L.length := by
  have : ∀ (L : List Int) (i : Nat), (cellsF i L).length = L.length := by
    intro L
    induction L with
    | nil => intro i; rfl
    | cons x r ih => intro i; rw [cellsF, List.length_cons, ih, List.length_cons]
  exact this L 0
/-- The keys lie in a block. -/
structure KM (w : World) (g : Nat) (L : List Int) : Prop where
  blk : Blk w g ty_keys_Keys (cellsK L)
  len : L.length = 22
theorem all256 {P : UInt8 → Prop} (h : ∀ n, n < 256 → P (UInt8.ofNat n)) (c : UInt8) : P c := by
  have := h c.toNat c.toNat_lt
  rwa [UInt8.ofNat_toNat] at this
theorem sign_facts (c : UInt8) : Lib.indexByte signsB c < 0 ∨ ∃ j : Nat, Lib.indexByte signsB c = j ∧ j < 4 ∧ signIx c = some j := by
  refine all256 (P := fun c => Lib.indexByte signsB c < 0 ∨ ∃ j : Nat, Lib.indexByte signsB c = j ∧ j < 4 ∧ signIx c = some j) (fun n hn => ?_) c
  by_cases h : Lib.indexByte signsB (UInt8.ofNat n) < 0
  · exact .inl h
  · refine .inr ⟨(Lib.indexByte signsB (UInt8.ofNat n)).toNat, by omega, ?_, ?_⟩
    · have : ∀ n, n < 256 → Lib.indexByte signsB (UInt8.ofNat n) < 4 := by decide +kernel
      have := this n hn
      omega
    · unfold signIx
      rw [if_neg (by omega)]
theorem num_facts (c : UInt8) : Lib.indexByte numsB c < 0 ∨ ∃ j : Nat, Lib.indexByte numsB c = j ∧ j < 17 ∧ numIx c = some (numPos j) := by
  refine all256 (P := fun c => Lib.indexByte numsB c < 0 ∨ ∃ j : Nat, Lib.indexByte numsB c = j ∧ j < 17 ∧ numIx c = some (numPos j)) (fun n hn => ?_) c
  by_cases h : Lib.indexByte numsB (UInt8.ofNat n) < 0
  · exact .inl h
  · refine .inr ⟨(Lib.indexByte numsB (UInt8.ofNat n)).toNat, by omega, ?_, ?_⟩
    · have : ∀ n, n < 256 → Lib.indexByte numsB (UInt8.ofNat n) < 17 := by decide +kernel
      have := this n hn
      omega
    · unfold numIx
      rw [if_neg (by omega)]
section
variable {w : World} {g : Nat}
theorem sign_spec (c : UInt8) {i : Int} (hi : i = c.toNat) {K : Option Addr → World → Prop} (hK : ∀ w', Below w.heap.size w w' → K ((signIx c).map fun j => ⟨g, j, none⟩) w') : c_keys_Keys_sign (some ⟨g, 0, none⟩) i w K := by
  refine call_keys_Keys_sign _ _ ?_
  unfold sh_keys_Keys_sign
  refine IndexByte_spec (bs := signsB) hi ?_
  rcases sign_facts c with h | ⟨j, hj, hlt, hs⟩
  · refine cond_t (by simpa using h) ?_
    have := hK w (Below.refl _ _)
    unfold signIx at this
    rwa [if_pos h] at this
  · rw [hj]
    refine cond_f (by simp) (onPtr_a (onPtr_a (onPtr_a (onPtr_a ?_))))
    refine nw_blk fun w2 hb hB hs2 => ⟨⟨by omega, by omega⟩, ?_⟩
    have hK' := hK w2 ((Below.refl _ w).drew.trans hB)
    rw [hs] at hK'
    refine ldP_of (x := some ⟨g, j, none⟩) ?_ hK'
    rw [Nat.mul_one, Int.toNat_natCast, add_mk, Nat.zero_add]
    have : j = 0 ∨ j = 1 ∨ j = 2 ∨ j = 3 := by omega
    rcases this with rfl | rfl | rfl | rfl <;> exact hb.cell _ (by simp [add_mk])
theorem number_spec (c : UInt8) {i : Int} (hi : i = c.toNat) {K : Option Addr → World → Prop} (hK : ∀ w', Below w.heap.size w w' → K ((numIx c).map fun j => ⟨g, j, none⟩) w') : c_keys_Keys_number (some ⟨g, 0, none⟩) i w K := by
  refine call_keys_Keys_number _ _ ?_
  unfold sh_keys_Keys_number
  refine IndexByte_spec (bs := numsB) hi ?_
  rcases num_facts c with h | ⟨j, hj, hlt, hs⟩
  · refine cond_t (by simpa using h) ?_
    have := hK w (Below.refl _ _)
    unfold numIx at this
    rwa [if_pos h] at this
  · rw [hj]
    refine cond_f (by simp) ?_
    refine onPtr_a (onPtr_a (onPtr_a (onPtr_a (onPtr_a (onPtr_a (onPtr_a (onPtr_a (onPtr_a (onPtr_a (onPtr_a (onPtr_a (onPtr_a (onPtr_a (onPtr_a (onPtr_a (onPtr_a ?_))))))))))))))))
    refine nw_blk fun w2 hb hB hs2 => ⟨⟨by omega, by omega⟩, ?_⟩
    have hK' := hK w2 ((Below.refl _ w).drew.trans hB)
    rw [hs] at hK'
    refine ldP_of (x := some ⟨g, numPos j, none⟩) ?_ hK'
    rw [Nat.mul_one, Int.toNat_natCast, add_mk, Nat.zero_add]
    have : j = 0 ∨ j = 1 ∨ j = 2 ∨ j = 3 ∨ j = 4 ∨ j = 5 ∨ j = 6 ∨ j = 7 ∨ j = 8 ∨ j = 9 ∨ j = 10 ∨ j = 11 ∨ j = 12 ∨ j = 13 ∨ j = 14 ∨ j = 15 ∨ j = 16 := by omega
    rcases this with rfl | rfl | rfl | rfl | rfl | rfl | rfl | rfl | rfl | rfl | rfl | rfl | rfl | rfl | rfl | rfl | rfl <;> exact hb.cell _ (by simp [add_mk, numPos])
theorem u8_ge {b : UInt8} (n : Nat) (hn : n < 256) : decide ((b.toNat : Int) ≥ (n : Int)) = decide (UInt8.ofNat n ≤ b) := by
  have : (UInt8.ofNat n).toNat = n := by simp; omega
  by_cases h : n ≤ b.toNat
  · rw [decide_eq_true (by omega), decide_eq_true (by show (UInt8.ofNat n).toNat ≤ b.toNat; omega)]
  · rw [decide_eq_false (by omega), decide_eq_false (by show ¬ (UInt8.ofNat n).toNat ≤ b.toNat; omega)]
theorem u8_le {b : UInt8} (n : Nat) (hn : n < 256) : decide ((b.toNat : Int) ≤ (n : Int)) = decide (b ≤ UInt8.ofNat n) := by
  have : (UInt8.ofNat n).toNat = n := by simp; omega
  by_cases h : b.toNat ≤ n
  · rw [decide_eq_true (by omega), decide_eq_true (by show b.toNat ≤ (UInt8.ofNat n).toNat; omega)]
  · rw [decide_eq_false (by omega), decide_eq_false (by show ¬ b.toNat ≤ (UInt8.ofNat n).toNat; omega)]
theorem visible_spec (b : UInt8) {i : Int} (hi : i = b.toNat) {K : Bool → World → Prop} (hK : K (visB b) w) : c_keys_visible i w K := by
  subst hi
  refine call_keys_visible _ ?_
  unfold sh_keys_visible
  unfold visB at hK
  have e1 : decide ((b.toNat : Int) ≥ 33) = decide ((33 : UInt8) ≤ b) := u8_ge 33 (by omega)
  have e2 : decide ((b.toNat : Int) ≤ 126) = decide (b ≤ (126 : UInt8)) := u8_le 126 (by omega)
  refine cond_of (fun h => ?_) fun h => ?_
  · rw [e2]
    rw [e1] at h
    rw [show decide ((33 : UInt8) ≤ b) = true from h] at hK
    exact hK
  · rw [e1] at h
    rw [show decide ((33 : UInt8) ≤ b) = false from h] at hK
    exact hK
theorem digit_val {b : UInt8} (h : ¬(b < 48 ∨ 57 < b)) : IntKind.i64.wrap (IntKind.u8.wrap ((b.toNat : Int) - 48)) = ((b.toNat - 48 : Nat) : Int) ∧ b.toNat - 48 < 10 := by
  have h1 : 48 ≤ b.toNat := by
    have : ¬ b.toNat < 48 := fun hh => h (.inl (show b.toNat < (48 : UInt8).toNat from hh))
    omega
  have h2 : b.toNat ≤ 57 := by
    have : ¬ 57 < b.toNat := fun hh => h (.inr (show (57 : UInt8).toNat < b.toNat from hh))
    omega
  rw [show ((b.toNat : Int) - 48) = ((b.toNat - 48 : Nat) : Int) by omega, wrap_nat .u8 (by show _ < 2 ^ 8; omega), wrap_nat .i64 (by show _ < 2 ^ 63; omega)]
  exact ⟨rfl, by omega⟩
theorem read_spec (v : List UInt8) {K : Int → Bool → World → Prop} (hK : ∀ (n : Nat) ok, n < 10000000000 → (ok = true → readN v = some n) → (ok = false → readN v = none) → K n ok w) : c_keys_read (strB v) w K := by
  refine call_keys_read _ ?_
  unfold sh_keys_read
  refine joinP_of fun J hJ => ?_
  have hno : readN v = none → K 0 false w := fun h => hK 0 false (by omega) (fun e => by cases e) fun _ => h
  refine cond_of (fun h => hno ?_) fun h => ?_
  · rw [strB_toList] at h
    have : v = [] := by simpa [ByteArray.toList_eq] using h
    unfold readN
    rw [if_pos (.inl this)]
  have hne : v ≠ [] := by
    rw [strB_toList] at h
    simpa [ByteArray.toList_eq] using h
  rw [strB_size]
  refine cond_of (fun h => hno ?_) fun h10 => ?_
  · have h : (10 : Int) < v.length := of_decide_eq_true h
    unfold readN
    rw [if_pos (.inr (by omega))]
  have h10 := of_decide_eq_false h10
  have hlen : v.length ≤ 10 := by omega
  have hread : readN v = (readD 0 v).bind fun n => if n ≤ 4294967295 then some n else none := by unfold readN; rw [if_neg (by intro hh; rcases hh with hh | hh; exact hne hh; omega)]
  refine hJ _ _ ?_
  refine loopP_rule (fun (s : Int × Int × Unit) w2 => w2 = w ∧ ∃ k m : Nat, s.2.1 = k ∧ s.1 = m ∧ k ≤ v.length ∧ m < 10 ^ k ∧ readD 0 v = readD m (v.drop k)) (fun s => v.length - s.2.1.toNat) ⟨rfl, 0, 0, rfl, rfl, Nat.zero_le _, by omega, rfl⟩ ?_
  rintro ⟨a, b, u⟩ _ ⟨rfl, k, m, hb, ha, hk, hm, hr⟩ I hI
  dsimp only at ha hb ⊢
  subst ha hb
  have hp10 : ∀ j, j ≤ 10 → 10 ^ j ≤ 10000000000 := fun j hj => Nat.pow_le_pow_right (by omega) hj
  by_cases hlt : k < v.length
  · refine cond_t (by simp [strB_size]; omega) (joinP_of fun J3 hJ3 => ?_)
    have hx : v[k]? = some v[k] := by simp [hlt]
    rw [List.drop_eq_getElem_cons hlt, readD] at hr
    refine ixS_of rfl hx ?_
    have hnone : (v[k] < 48 ∨ 57 < v[k]) → readN v = none := fun hh => by rw [hread, hr, if_pos hh]; rfl
    refine cond_of (fun h => hno (hnone (.inl ?_))) fun h1 => ?_
    · have h := of_decide_eq_true h
      show (v[k]).toNat < (48 : UInt8).toNat
      have : (48 : UInt8).toNat = 48 := rfl
      omega
    refine ixS_of rfl hx ?_
    refine cond_of (fun h => hno (hnone (.inr ?_))) fun h2 => ?_
    · have h := of_decide_eq_true h
      show (57 : UInt8).toNat < (v[k]).toNat
      have : (57 : UInt8).toNat = 57 := rfl
      omega
    have h1 := of_decide_eq_false h1
    have h2 := of_decide_eq_false h2
    have hd : ¬(v[k] < 48 ∨ 57 < v[k]) := by
      rintro (hh | hh)
      · have : (v[k]).toNat < (48 : UInt8).toNat := hh
        have : (48 : UInt8).toNat = 48 := rfl
        omega
      · have : (57 : UInt8).toNat < (v[k]).toNat := hh
        have : (57 : UInt8).toNat = 57 := rfl
        omega
    obtain ⟨hv1, hv2⟩ := digit_val hd
    rw [if_neg hd] at hr
    refine hJ3 _ _ (ixS_of rfl hx ?_)
    rw [hv1]
    have hb10 := hp10 (k + 1) (by omega)
    have hmk : m < 10 ^ k := hm
    have hps : 10 ^ (k + 1) = 10 ^ k * 10 := Nat.pow_succ _ _
    rw [show (10 : Int) * (m : Int) = ((10 * m : Nat) : Int) by omega, wrap_nat .i64 (by show _ < 2 ^ 63; omega), show ((10 * m : Nat) : Int) + ((v[k].toNat - 48 : Nat) : Int) = ((10 * m + (v[k].toNat - 48) : Nat) : Int) by omega, wrap_nat .i64 (by show _ < 2 ^ 63; omega), i64_in (by omega)]
    exact hI _ _ ⟨rfl, k + 1, _, by simp, rfl, by omega, by omega, hr⟩ (by simp; omega)
  · refine cond_f (by simp [strB_size]; omega) ?_
    obtain rfl : k = v.length := by omega
    rw [List.drop_of_length_le (Nat.le_refl _), readD] at hr
    have := hp10 v.length hlen
    refine hK m _ (by omega) (fun h => ?_) fun h => ?_
    · have h : (m : Int) ≤ 4294967295 := of_decide_eq_true h
      rw [hread, hr, Option.bind_some, if_pos (by omega)]
    · have h : ¬ (m : Int) ≤ 4294967295 := of_decide_eq_false h
      rw [hread, hr, Option.bind_some, if_neg (by omega)]
theorem prefix_one (v : List UInt8) (c : UInt8) {K : Bool → World → Prop} (hK : K (decide (v.head? = some c)) w) : c_internal_stringslite_HasPrefix (strB v) (strB [c]) w K := by
  refine call_internal_stringslite_HasPrefix _ _ ?_
  unfold sh_internal_stringslite_HasPrefix
  cases v with
  | nil => exact cond_f (by simp [strB_size]) (by simpa using hK)
  | cons b r =>
    refine cond_t (by simp [strB_size]; omega) ?_
    refine slS_of (h := 1) (l := 0) (.inl ⟨rfl, rfl⟩) (.inr (by simp [strB_size])) (by omega) (by simp) ?_
    have e : ((strB (((b :: r).take 1).drop 0)).toList == (strB [c]).toList) = decide ((b :: r).head? = some c) := by
      rw [strB_toList, strB_toList]
      by_cases h : b = c
      · subst h; simp
      · rw [decide_eq_false (by simpa using h)]
        simpa using h
    rw [e]
    exact hK
theorem CutPrefix_one (v : List UInt8) (c : UInt8) {K : ByteArray → Bool → World → Prop} (h1 : ∀ r, v = c :: r → K (strB r) true w) (h0 : (∀ r, v ≠ c :: r) → K (strB v) false w) : c_strings_CutPrefix (strB v) (strB [c]) w K := by
  refine call_strings_CutPrefix _ _ ?_
  unfold sh_strings_CutPrefix
  refine call_internal_stringslite_CutPrefix _ _ ?_
  unfold sh_internal_stringslite_CutPrefix
  refine prefix_one v c ?_
  cases v with
  | nil => exact cond_t (by simp) (h0 fun r => by simp)
  | cons b r =>
    by_cases h : b = c
    · subst h
      refine cond_f (by simp) (slS_of (l := 1) (h := (b :: r).length) (.inr (by simp [strB_size])) (.inl ⟨rfl, rfl⟩) (by simp) (Nat.le_refl _) ?_)
      simpa using h1 r rfl
    · exact cond_t (by simpa using h) (h0 fun r' e => h (by cases e; rfl))
theorem depth_spec (v : List UInt8) {K : Int → Bool → World → Prop} (hK : ∀ (n : Int) ok, (ok = true → depthL v = some n) → (ok = false → depthL v = none) → K n ok w) : c_keys_depth (strB v) w K := by
  refine call_keys_depth _ ?_
  unfold sh_keys_depth
  have key : ∀ (r : List UInt8) (f : Nat → Int) (below : Bool), (depthL v = (readN r).bind fun n => if near (f n) then some (f n) else none) → ∀ (n : Nat) (ok : Bool), (ok = true → readN r = some n) → (ok = false → readN r = none) →
      (cond ok (cond (decide (f n ≥ ((-1073741824) : Int))) (K (f n) (decide (f n < (1073741824 : Int))) w) (K (f n) false w)) (K (f n) false w)) := by
    intro r f below hd n ok h1 h0
    refine cond_of (fun hok => ?_) fun hok => ?_
    · have hr := h1 hok
      rw [hr, Option.bind_some] at hd
      unfold near at hd
      refine cond_of (fun ha => ?_) fun ha => ?_
      · have ha := of_decide_eq_true ha
        refine hK _ _ (fun hb => ?_) fun hb => ?_
        · have hb := of_decide_eq_true hb
          rw [hd, decide_eq_true (by omega), decide_eq_true (by omega)]
          rfl
        · have hb := of_decide_eq_false hb
          rw [hd, decide_eq_false (p := f n < 1073741824) (by omega), Bool.and_false]
          rfl
      · have ha := of_decide_eq_false ha
        refine hK _ _ (fun hb => by cases hb) fun _ => ?_
        rw [hd, decide_eq_false (p := -1073741824 ≤ f n) (by omega), Bool.false_and]
        rfl
    · have hr := h0 hok
      rw [hr] at hd
      exact hK _ _ (fun hb => by cases hb) fun _ => hd
  refine CutPrefix_one v 45 (fun r hv => ?_) fun hv => ?_
  · refine read_spec r fun n ok hn h1 h0 => joinP_of fun J hJ => cond_t rfl (hJ _ _ ?_)
    rw [i64_in (by omega), show (0 : Int) - (n : Int) = -(n : Int) by omega]
    exact key r (fun n => -(n : Int)) true (by rw [hv]; rfl) n ok h1 h0
  · refine read_spec v fun n ok hn h1 h0 => joinP_of fun J hJ => cond_f rfl (hJ _ _ ?_)
    refine key v (fun n => (n : Int)) false ?_ n ok h1 h0
    unfold depthL
    split
    · rename_i r
      exact absurd rfl (hv r)
    · rfl
end
end Go.Proofs.YtpadlibcalomnaaDoor
