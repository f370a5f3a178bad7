/- The program's graphics keys: Text, Reply. -/
import Derived.Test.YtpadlibcalomnaaDoorK4
set_option linter.unusedVariables false
namespace Go.Proofs.YtpadlibcalomnaaDoor
open Go.Vc Go.RowKit
set_option maxRecDepth 400000

theorem joinC_len (m : Nat) : ∀ (l : List (List UInt8)), (∀ x ∈ l, x.length ≤ m) → (joinC l).length ≤ l.length * (m + 1)
  | [], _ => by simp [joinC_nil]
  | [x], h => by
    have := h x (by simp)
    rw [joinC_one]
    simp
    omega
  | x :: y :: l, h => by
    have h1 := h x (by simp)
    have h2 := joinC_len m (y :: l) fun z hz => h z (by simp [hz])
    have e : (x :: y :: l).length * (m + 1) = (y :: l).length * (m + 1) + (m + 1) := by rw [List.length_cons, Nat.succ_mul]
    rw [e, joinC_cons x (y :: l) (by simp), List.length_append, List.length_cons]
    omega
theorem encode_ascii {x : Int} (h : 0 ≤ x ∧ x < 128) : Utf8.encode x = strB [u8 x] := by
  obtain ⟨n, rfl⟩ : ∃ n : Nat, x = n := ⟨x.toNat, by omega⟩
  have : ∀ n : Nat, n < 128 → Utf8.encode (n : Int) = strB [u8 (n : Int)] := by decide +kernel
  exact this n (by omega)
section
variable {w : World}
theorem rune_spec {x : Int} (h : 0 ≤ x ∧ x < 128) {K : ByteArray → World → Prop} (hK : K (strB [u8 x]) w) : runK1 PG (convert ty_int32 ty_string (.int .i32 (IntKind.i32.wrap x))) Kind.string w K := by
  refine ⟨_, w, ?_, hK⟩
  have e : IntKind.i32.wrap x = x := IntWalk.i32_in _ (by omega)
  rw [e, run_convert_int_string w ty_int32 ty_string .i32 x (by kernel_rfl) (by kernel_rfl), encode_ascii h]
  rfl
theorem Join_spec {base : Nat} {q : Slc} {l : List (List UInt8)} (hq : Own E_string w base q (l.map strB)) (hn : l.length ≤ 100000) (hl : (joinC l).length ≤ 1000000) {K : ByteArray → World → Prop} (hK : ∀ w', Below w.heap.size w w' → K (strB (joinC l)) w') : c_strings_Join q (strB [44]) w K := by
  have hlen : (l.map strB).map (·.data.toList) = l := by
    rw [List.map_map]
    conv => rhs; rw [← List.map_id l]
    exact List.map_congr_left fun x _ => rfl
  rcases hq.form with ⟨rfl, hz⟩ | ⟨g, cur, hs, hg, hb, h1, h2, h3, h4⟩
  · have hnil : l = [] := by simpa using hz
    subst hnil
    refine Calls.mono (Tryd.strings_Join_none none 0 (strB [44]) w) ?_
    rintro e w' ⟨rfl, rfl⟩
    exact ⟨_, rfl, hK w' (Below.refl _ _)⟩
  · have hc : Calls PG 34 #[.slice (some ⟨g, 0, none⟩) (l.map strB).length q.c, .string (strB [44])] w fun e w' => e = .returned (.string ⟨(Lib.join ((l.map strB).map (·.data.toList)) [44]).toArray⟩) ∧ Below w.heap.size w w' :=
      Tryd.strings_Join g 0 q.c (l.map strB) (strB [44]) w (fun j x hx => by
        have := hq.rd.at_ j x hx 0 (.string x) rfl
        rw [hs] at this
        simpa [Slc.at_, add_mk, show E_string.k = 1 from rfl] using this) hb.lt (by simp; omega) (by omega) (by rw [hlen]; show (joinC l).length ≤ _; omega)
    rw [hs]
    refine Calls.mono hc ?_
    rintro e w' ⟨rfl, hB⟩
    rw [hlen]
    exact ⟨_, rfl, hK w' hB⟩
theorem may_bnd {L : List Int} (hm : mayL L = true) {i : Nat} (hi : i < 22) : -1073741824 ≤ L[i]?.getD 0 ∧ L[i]?.getD 0 ≤ 4294967295 := by
  have := may_at hm hi
  unfold fieldOk signOk near at this
  split at this
  · simp only [Bool.or_eq_true, Bool.and_eq_true, decide_eq_true_eq] at this
    omega
  · split at this
    · simp only [Bool.and_eq_true, decide_eq_true_eq] at this
      omega
    · simp only [Bool.and_eq_true, decide_eq_true_eq] at this
      omega
theorem mkI_len {i : Nat} {x : Int} (h : -1073741824 ≤ x ∧ x ≤ 4294967295) : (mkI i x).length ≤ 22 := by
  have := itoa_len (n := x) (by omega) (by omega)
  unfold mkI
  split
  · simp
  · simp
    omega
theorem items_len {L : List Int} (hm : mayL L = true) : ∀ n, n ≤ 22 → ((List.range n).flatMap (itemI L)).length ≤ n ∧ ∀ x ∈ (List.range n).flatMap (itemI L), x.length ≤ 22
  | 0, _ => by simp
  | n + 1, hn => by
    obtain ⟨h1, h2⟩ := items_len hm n (by omega)
    have hi : (itemI L n).length ≤ 1 ∧ ∀ x ∈ itemI L n, x.length ≤ 22 := by
      unfold itemI
      split
      · simp
      · exact ⟨by simp, fun x hx => by rw [List.mem_singleton] at hx; subst hx; exact mkI_len (may_bnd hm (by omega))⟩
    rw [List.range_succ, List.flatMap_append, List.flatMap_singleton]
    refine ⟨by rw [List.length_append]; omega, fun x hx => ?_⟩
    rcases List.mem_append.1 hx with hx | hx
    · exact h2 x hx
    · exact hi.2 x hx
theorem range_item (L : List Int) (n : Nat) : (List.range (n + 1)).flatMap (itemI L) = (List.range n).flatMap (itemI L) ++ itemI L n := by rw [List.range_succ, List.flatMap_append, List.flatMap_singleton]
/-- A string appended. -/
theorem snoc_str {base : Nat} {s : Slc} {l : List (List UInt8)} {x : List UInt8} {K : Slc → World → Prop} (hown : Own E_string w base s (l.map strB)) (hb : base ≤ w.heap.size) (hl : l.length ≤ 1000)
    (hK : ∀ r w', Own E_string w' base r ((l ++ [x]).map strB) → Chg (fun k => s.blk = some k) w w' → (∀ k, r.blk = some k → s.blk = some k ∨ w.heap.size ≤ k) → K r w') :
    nw ty_string [(.string (strB x))] w fun a w1 => apK PG #[ty_sl_string, ty_sl_string] ty_sl_string s ⟨some a, 1, 1⟩ w1 fun r w2 => K r w2 := by
  refine snoc_own (E := E_string) (y := strB x) sT_sl_string hown rfl hb (by rw [by_sl_string, List.length_map]; omega) (by rw [List.length_map]; unfold maxLen; omega) fun r w' ho hc hr => hK r w' ?_ hc hr
  rw [List.map_append]
  exact ho
theorem Text_spec {k : T_keys_Keys} (hT : Tab w) (hb : Bytes4 (toL k)) {K : Slc → World → Prop} (hK : ∀ q w', Rd E_uint8 w' q (textL (toL k)) → Below w.heap.size w w' → (∀ j, q.blk = some j → w.heap.size ≤ j) → K q w') : c_keys_Text k w K := by
  refine call_keys_Text _ ?_
  unfold sh_keys_Text
  refine nw_blk fun w1 hb1 hB1 hs1 => ?_
  obtain ⟨L, hL⟩ : ∃ L, toL k = L := ⟨_, rfl⟩
  have hLl : L.length = 22 := by rw [← hL]; rfl
  have hk1 : KM w1 w.heap.size L := by rw [← hL]; exact ⟨hb1, rfl⟩
  refine First_spec fun w2 hB2 => ?_
  have s2 := hB2.size
  refine box_of (t := ty_keys_Keys) (vs := T_keys_Keys.rep.cells (ofL firstL)) rfl fun w4 hb4 hB4 hs4 => ?_
  have hk4 : KM w4 w.heap.size L := (hk1.ext hB2).ext hB4
  have hf4 : KM w4 w2.heap.size firstL := ⟨hb4, rfl⟩
  have hB14 : Below w.heap.size w w4 := (hB1.trans (hB2.mono (by omega))).trans (hB4.mono (by omega))
  refine joinP_of fun J1 hJ1 => ?_
  have hkc : cellsAt w4 ⟨w.heap.size, 0, none⟩ (T_keys_Keys.rep.cells k) := by have := hk4.blk.cells; rw [← hL] at this; exact this
  refine ldS_of (x := k) hkc (may_spec hb fun w25 hB25 => ?_)
  have hB25' := hB14.trans (hB25.mono hB14.size)
  have hk25 := hk4.ext hB25
  have hf25 := hf4.ext hB25
  have hnil : textL L = [] → K ⟨none, 0, 0⟩ w25 := fun h => hK _ w25 (by rw [hL, h]; exact Rd.nil _ _) hB25' fun j hj => by cases hj
  rw [hL]
  cases hm : mayL L with
  | false => exact cond_t rfl (hnil (by unfold textL; rw [if_neg (by rw [hm]; simp)]))
  | true =>
    have htxt : textL L = joinC (itemsL L) := by unfold textL; rw [if_pos hm]
    refine cond_f rfl ?_
    have hkc25 : cellsAt w25 ⟨w.heap.size, 0, none⟩ (T_keys_Keys.rep.cells k) := by have := hk25.blk.cells; rw [← hL] at this; exact this
    refine ldS_of (x := k) hkc25 (ldS_of (x := ofL firstL) (hf25.blk.cells) ?_)
    refine cond_of (fun heq => hnil ?_) fun _ => hJ1 _ _ ?_
    · have : k = ofL firstL := eqK_true heq
      have e : L = firstL := by rw [← hL, this]; exact list22 rfl
      rw [htxt, e]
      decide
    -- the signs
    have hsz := hB25'.size
    refine loopP_rule (fun (s : Slc × Int × Unit) w6 => ∃ i : Nat, s.2.1 = i ∧ i ≤ 4 ∧ KM w6 w.heap.size L ∧ KM w6 w2.heap.size firstL ∧ Below w.heap.size w w6 ∧ w25.heap.size ≤ w6.heap.size ∧ Own E_string w6 w25.heap.size s.1 (((List.range i).flatMap (itemI L)).map strB))
      (fun s => 4 - s.2.1.toNat) ⟨0, rfl, by omega, hk25, hf25, hB25', Nat.le_refl _, Own.nil _ _ _⟩ ?_
    rintro ⟨q, i, u⟩ w6 ⟨m, hi, hm4, hk6, hf6, hB6, hs6, ho6⟩ I hI
    dsimp only at hi ho6 ⊢
    subst hi
    have s4 := hB25.size
    by_cases hlt : m < 4
    · refine cond_t (by simp; omega) ?_
      obtain ⟨c, hc1, hc2, hc3⟩ := sign_at hlt
      refine ixS_of (bs := signsB) rfl hc1 (sign_spec c rfl fun w7 hB7 => ?_)
      rw [hc2]
      have hk7 := hk6.ext hB7
      have hcell := hk7.cell (j := m) (by omega)
      rw [show cellK m (L[m]?.getD 0) = .int .u8 (L[m]?.getD 0) by unfold cellK; rw [if_pos hlt]] at hcell
      refine onPtr_a (ldI_of (x := L[m]?.getD 0) hcell ?_)
      refine ixS_of (bs := signsB) rfl hc1 (sign_spec c rfl fun w8 hB8 => ?_)
      rw [hc2]
      have hf8 := (hf6.ext hB7).ext hB8
      have hcell' := hf8.cell (j := m) (by omega)
      rw [show cellK m (firstL[m]?.getD 0) = .int .u8 (firstL[m]?.getD 0) by unfold cellK; rw [if_pos hlt]] at hcell'
      refine onPtr_a (ldI_of (x := firstL[m]?.getD 0) hcell' ?_)
      have hk8 := hk7.ext hB8
      have hs7 := hB7.size
      have hs8 := hB8.size
      have hB8' := (hB6.trans (hB7.mono (by omega))).trans (hB8.mono (by omega))
      have ho8 := (ho6.ext hB7).ext hB8
      refine cond_of (fun hne => ?_) fun he => ?_
      · have hne : L[m]?.getD 0 ≠ firstL[m]?.getD 0 := by simpa using hne
        have hit : itemI L m = [mkI m (L[m]?.getD 0)] := by unfold itemI; rw [if_neg hne]
        have hmk : mkI m (L[m]?.getD 0) = [c, 61, u8 (L[m]?.getD 0)] := by unfold mkI; rw [if_pos hlt, hc3]
        have hfo := may_at hm (i := m) (by omega)
        have hx : 0 ≤ L[m]?.getD 0 ∧ L[m]?.getD 0 < 128 := by
          unfold fieldOk signOk at hfo
          rw [if_pos hlt] at hfo
          simp only [Bool.or_eq_true, Bool.and_eq_true, decide_eq_true_eq] at hfo
          omega
        rw [i64_in (by omega)]
        have hcs : (signsB.take (m + 1)).drop m = [c] := by
          rw [List.take_add_one, hc1, List.drop_append_of_le_length (by simp [signsB]; omega), List.drop_of_length_le (by rw [List.length_take]; omega)]
          rfl
        refine slS_of (bs := signsB) (l := m) (h := m + 1) (.inr rfl) (.inr (by simp)) (by omega) (by simp [signsB]; omega) ?_
        rw [hcs]
        refine ⟨by rw [strB_size]; exact (by decide : ((1 + 1 : Nat) : Int) ≤ 9223372036854775807), ?_⟩
        refine rune_spec hx ⟨by rw [show (strB [c] ++ (⟨#[61]⟩ : ByteArray)) = strB [c, 61] from strB_app [c] [61], strB_size, strB_size]; exact (by decide : ((2 + 1 : Nat) : Int) ≤ 9223372036854775807), ?_⟩
        rw [show (strB [c] ++ (⟨#[61]⟩ : ByteArray)) = strB [c, 61] from strB_app [c] [61], strB_app]
        show nw ty_string [(.string (strB [c, 61, u8 (L[m]?.getD 0)]))] w8 _
        rw [← hmk]
        refine snoc_str ho8 (by omega) (by have := (items_len hm m (by omega)).1; omega) fun r w11 ho11 hc11 hr11 => ?_
        have hne1 : ∀ j, q.blk = some j → w25.heap.size ≤ j := fun j hj => (ho8.lt j hj).1
        refine hI _ _ ⟨m + 1, by simp, by omega, ⟨hk8.blk.chg hc11 fun e => ?_, hLl⟩, ⟨hf8.blk.chg hc11 fun e => ?_, rfl⟩, hB8'.trans (hc11.below (by omega) fun i hi e => ?_), by have := hc11.size; omega, ?_⟩ (by simp; omega)
        · have := hne1 _ e; omega
        · have := hne1 _ e; omega
        · have := hne1 _ e; omega
        · rw [range_item, hit]; exact ho11
      · have he : L[m]?.getD 0 = firstL[m]?.getD 0 := by simpa using he
        have hit : itemI L m = [] := by unfold itemI; rw [if_pos he]
        rw [i64_in (by omega)]
        refine hI _ _ ⟨m + 1, by simp, by omega, hk8, hf8, hB8', by omega, ?_⟩ (by simp; omega)
        rw [range_item, hit, List.append_nil]
        exact ho8
    · refine cond_f (by simp; omega) ?_
      obtain rfl : m = 4 := by omega
      -- the numbers
      refine loopP_rule (fun (s : Slc × Int × Unit) w12 => ∃ j : Nat, s.2.1 = j ∧ j ≤ 17 ∧ KM w12 w.heap.size L ∧ KM w12 w2.heap.size firstL ∧ Below w.heap.size w w12 ∧ w25.heap.size ≤ w12.heap.size ∧ Own E_string w12 w25.heap.size s.1 (((List.range (if j = 17 then 22 else 4 + j)).flatMap (itemI L)).map strB))
        (fun s => 17 - s.2.1.toNat) ⟨0, rfl, by omega, hk6, hf6, hB6, hs6, ho6⟩ ?_
      rintro ⟨q3, i, u⟩ w12 ⟨j, hi, hj, hk12, hf12, hB12, hs12, ho12⟩ I3 hI3
      dsimp only at hi ho12 ⊢
      subst hi
      by_cases hlt3 : j < 17
      · refine cond_t (by simp; omega) ?_
        rw [if_neg (by omega)] at ho12
        obtain ⟨c, hc1, hc2, hc3⟩ := num_at hlt3
        have hp := numPos_lt hlt3
        -- the number itself, behind z
        refine joinP_of fun J4 hJ4 => ?_
        have hnum : ∀ {w13 : World} {q : Slc}, KM w13 w.heap.size L → KM w13 w2.heap.size firstL → Below w.heap.size w w13 → w25.heap.size ≤ w13.heap.size → Own E_string w13 w25.heap.size q (((List.range (numPos j)).flatMap (itemI L)).map strB) → J4 (q, ()) w13 := by
          intro w13 q hk13 hf13 hB13 hs13 ho13
          refine hJ4 _ _ ?_
          refine ixS_of (bs := numsB) rfl hc1 (number_spec c rfl fun w14 hB14' => ?_)
          rw [hc2]
          have hk14 := hk13.ext hB14'
          have hcell := hk14.cell (j := numPos j) hp.1
          rw [show cellK (numPos j) (L[numPos j]?.getD 0) = .int .i64 (L[numPos j]?.getD 0) by unfold cellK; rw [if_neg hp.2]] at hcell
          refine onPtr_a (ldI_of (x := L[numPos j]?.getD 0) hcell ?_)
          refine ixS_of (bs := numsB) rfl hc1 (number_spec c rfl fun w15 hB15 => ?_)
          rw [hc2]
          have hf15 := (hf13.ext hB14').ext hB15
          have hcell' := hf15.cell (j := numPos j) hp.1
          rw [show cellK (numPos j) (firstL[numPos j]?.getD 0) = .int .i64 (firstL[numPos j]?.getD 0) by unfold cellK; rw [if_neg hp.2]] at hcell'
          refine onPtr_a (ldI_of (x := firstL[numPos j]?.getD 0) hcell' ?_)
          have hk15 := hk14.ext hB15
          have e14 := hB14'.size
          have e15 := hB15.size
          have hB15' := (hB13.trans (hB14'.mono (by omega))).trans (hB15.mono (by omega))
          have ho15 := (ho13.ext hB14').ext hB15
          have hnext : (if j + 1 = 17 then 22 else 4 + (j + 1)) = numPos j + 1 := by unfold numPos; split <;> split <;> omega
          refine cond_of (fun hne => ?_) fun he => ?_
          · have hne : L[numPos j]?.getD 0 ≠ firstL[numPos j]?.getD 0 := by simpa using hne
            have hit : itemI L (numPos j) = [mkI (numPos j) (L[numPos j]?.getD 0)] := by unfold itemI; rw [if_neg hne]
            have hmk : mkI (numPos j) (L[numPos j]?.getD 0) = c :: 61 :: Lib.itoa (L[numPos j]?.getD 0) := by unfold mkI; rw [if_neg hp.2, hc3]
            have hbd := may_bnd hm hp.1
            rw [i64_in (by omega)]
            have hcs : (numsB.take (j + 1)).drop j = [c] := by
              rw [List.take_add_one, hc1, List.drop_append_of_le_length (by simp [numsB]; omega), List.drop_of_length_le (by rw [List.length_take]; omega)]
              rfl
            refine slS_of (bs := numsB) (l := j) (h := j + 1) (.inr rfl) (.inr (by simp)) (by omega) (by simp [numsB]; omega) ?_
            rw [hcs]
            refine ⟨by rw [strB_size]; exact (by decide : ((1 + 1 : Nat) : Int) ≤ 9223372036854775807), ?_⟩
            refine Itoa_spec (hT.ext (hB15'.drew)) (by omega) (by omega) fun w16 hB16 => ?_
            have hil := itoa_len (n := L[numPos j]?.getD 0) (by omega) (by omega)
            refine ⟨by rw [show (strB [c] ++ (⟨#[61]⟩ : ByteArray)) = strB [c, 61] from strB_app [c] [61], strB_size, strB_size]; simp; omega, ?_⟩
            rw [show (strB [c] ++ (⟨#[61]⟩ : ByteArray)) = strB [c, 61] from strB_app [c] [61], strB_app]
            show nw ty_string [(.string (strB (c :: 61 :: Lib.itoa (L[numPos j]?.getD 0))))] w16 _
            rw [← hmk]
            have e16 : w15.heap.size ≤ w16.heap.size := hB16.size
            have ho16 : Own E_string w16 w25.heap.size q (((List.range (numPos j)).flatMap (itemI L)).map strB) := ho15.drew.ext hB16
            have hB16' : Below w.heap.size w w16 := hB15'.drew.trans (hB16.mono (by show _ ≤ w15.heap.size; omega))
            have hk16 := hk15.drew.ext hB16
            have hf16 := hf15.drew.ext hB16
            refine snoc_str ho16 (by omega) (by have := (items_len hm (numPos j) (by omega)).1; omega) fun r w18 ho18 hc18 hr18 => ?_
            have hne1 : ∀ i, q.blk = some i → w25.heap.size ≤ i := fun i hi => (ho16.lt i hi).1
            refine hI3 _ _ ⟨j + 1, by simp, by omega, ⟨hk16.blk.chg hc18 fun e => ?_, hLl⟩, ⟨hf16.blk.chg hc18 fun e => ?_, rfl⟩, hB16'.trans (hc18.below (by omega) fun i hi e => ?_), by have := hc18.size; omega, ?_⟩ (by simp; omega)
            · have := hne1 _ e; omega
            · have := hne1 _ e; omega
            · have := hne1 _ e; omega
            · dsimp only; rw [hnext, range_item, hit]; exact ho18
          · have he : L[numPos j]?.getD 0 = firstL[numPos j]?.getD 0 := by simpa using he
            have hit : itemI L (numPos j) = [] := by unfold itemI; rw [if_pos he]
            rw [i64_in (by omega)]
            refine hI3 _ _ ⟨j + 1, by simp, by omega, hk15, hf15, hB15', by omega, ?_⟩ (by simp; omega)
            dsimp only
            rw [hnext, range_item, hit, List.append_nil]
            exact ho15
        refine joinP_of fun J5 hJ5 => ?_
        by_cases h16 : j = 16
        · subst h16
          have ho12 : Own E_string w12 w25.heap.size q3 (((List.range 20).flatMap (itemI L)).map strB) := ho12
          refine cond_t (by decide) ?_
          have hz := hk12.cell (j := 20) (by omega)
          obtain ⟨z, hzz⟩ : ∃ z, L[20]?.getD 0 = z := ⟨_, rfl⟩
          rw [hzz] at hz
          have hbd := may_bnd hm (i := 20) (by omega)
          rw [hzz] at hbd
          refine ldI_of (x := z) (by rw [add_mk]; exact hz) (hJ5 _ _ ?_)
          have hf20 : firstL[20]?.getD 0 = 0 := rfl
          refine cond_of (fun hne => ?_) fun he => ?_
          · have hne : z ≠ 0 := by simpa using hne
            have hit : itemI L 20 = [mkI 20 z] := by unfold itemI; rw [hzz, hf20, if_neg hne]
            have hmk : mkI 20 z = 122 :: 61 :: Lib.itoa z := rfl
            refine ldI_of (x := z) (by rw [add_mk]; exact hz) ?_
            refine Itoa_spec (hT.ext hB12) (by omega) (by omega) fun w20 hB20 => ?_
            have hil := itoa_len (n := z) (by omega) (by omega)
            refine ⟨by rw [strB_size]; show (((2 + _ : Nat) : Int) ≤ _); omega, ?_⟩
            rw [show ((⟨#[122, 61]⟩ : ByteArray) ++ strB (Lib.itoa z)) = strB (122 :: 61 :: Lib.itoa z) from strB_app [122, 61] _, ← hmk]
            have e20 := hB20.size
            have ho20 := ho12.ext hB20
            refine snoc_str ho20 (by omega) (by have := (items_len hm 20 (by omega)).1; omega) fun r w22 ho22 hc22 hr22 => ?_
            have hne1 : ∀ i, q3.blk = some i → w25.heap.size ≤ i := fun i hi => (ho20.lt i hi).1
            have hk20 := hk12.ext hB20
            have hf20' := hf12.ext hB20
            refine hnum ⟨hk20.blk.chg hc22 fun e => ?_, hLl⟩ ⟨hf20'.blk.chg hc22 fun e => ?_, rfl⟩ ((hB12.trans (hB20.mono (by omega))).trans (hc22.below (by omega) fun i hi e => ?_)) (by have := hc22.size; omega) ?_
            · have := hne1 _ e; omega
            · have := hne1 _ e; omega
            · have := hne1 _ e; omega
            · show Own _ _ _ _ (((List.range (20 + 1)).flatMap (itemI L)).map strB)
              rw [range_item, hit]
              exact ho22
          · have he : z = 0 := by simpa using he
            have hit : itemI L 20 = [] := by unfold itemI; rw [hzz, hf20, if_pos he]
            refine hnum hk12 hf12 hB12 hs12 ?_
            show Own _ _ _ _ (((List.range (20 + 1)).flatMap (itemI L)).map strB)
            rw [range_item, hit, List.append_nil]
            exact ho12
        · refine cond_f (by simp; omega) (hJ5 _ _ (cond_f rfl ?_))
          refine hnum hk12 hf12 hB12 hs12 ?_
          rw [show numPos j = 4 + j by unfold numPos; rw [if_neg h16]; omega]
          exact ho12
      · refine cond_f (by simp; omega) ?_
        obtain rfl : j = 17 := by omega
        rw [if_pos rfl] at ho12
        have hil := items_len hm 22 (by omega)
        have hjl := joinC_len 22 _ hil.2
        refine Join_spec (l := itemsL L) ho12 (by have := hil.1; unfold itemsL; omega) (by unfold itemsL; omega) fun w23 hB23 => ?_
        have htl : (textL L).length ≤ 1000000 := by rw [htxt]; unfold itemsL; omega
        rw [← htxt]
        refine toBytes_spec (by omega) fun r w24 hr24 hrb hB24 _ => ?_
        have e23 := hB23.size
        have e12 := hB12.size
        refine hK r w24 (by rw [hL]; exact hr24) ((hB12.trans (hB23.mono (by omega))).trans (hB24.mono (by omega))) fun i hi => ?_
        have := hrb i hi
        omega
end
end Go.Proofs.YtpadlibcalomnaaDoor
