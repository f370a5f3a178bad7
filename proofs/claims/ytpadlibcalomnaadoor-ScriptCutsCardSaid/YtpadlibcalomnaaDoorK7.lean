/- The document's reply; words; known; the law KeysReplies. -/
import Derived.Test.YtpadlibcalomnaaDoorK6
set_option linter.unusedVariables false
namespace Go.Proofs.YtpadlibcalomnaaDoor
open Go.Vc Go.RowKit
set_option maxRecDepth 400000

/-- The items, each with a comma ahead. -/
def cat44 (l : List (List UInt8)) : List UInt8 := l.flatMap fun x => 44 :: x
theorem cat44_app (a b : List (List UInt8)) : cat44 (a ++ b) = cat44 a ++ cat44 b := by simp [cat44]
theorem cat44_cons (x : List UInt8) (l : List (List UInt8)) : cat44 (x :: l) = 44 :: x ++ cat44 l := by simp [cat44]
theorem cat44_join : ∀ (l : List (List UInt8)), l ≠ [] → cat44 l = 44 :: joinC l
  | [], h => absurd rfl h
  | [x], _ => by rw [joinC_one]; simp [cat44]
  | x :: y :: l, _ => by rw [joinC_cons x (y :: l) (by simp), cat44_cons, cat44_join (y :: l) (by simp)]; simp
section
variable {w : World}
theorem rFirst_spec {K : T_keys_Keys → World → Prop} (hK : ∀ w', Below w.heap.size w w' → K (ofL firstL) w') : c_phosphorref19_First w K := by
  refine call_phosphorref19_First ?_
  unfold sh_phosphorref19_First
  refine nw_blk fun w1 hb1 hB1 hs1 => ?_
  refine stK_blk hb1 (by decide) fun w2 hb2 hg2 hs2 => ?_
  have hb2 : Blk w2 w.heap.size ty_phosphorref19_Keys (T_keys_Keys.rep.cells (ofL firstL)) := hb2
  refine ldS_of (x := ofL firstL) hb2.cells (hK w2 (hB1.grown hg2 (by omega) fun k hk => by cases hk; exact Nat.le_refl _))
theorem Code_both (e : Int) {K : ByteArray → ByteArray → World → Prop} (hK : ∀ t, K t t w) : c_keys_Code e w fun a w1 => c_phosphorref19_Code e w1 fun b w2 => K a b w2 := by
  refine call_keys_Code _ ?_
  unfold sh_keys_Code
  refine cond_of (fun h => ?_) fun h => ?_
  · refine call_phosphorref19_Code _ ?_
    unfold sh_phosphorref19_Code
    exact cond_t h (hK _)
  refine cond_of (fun h6 => ?_) fun h6 => ?_
  · refine call_phosphorref19_Code _ ?_
    unfold sh_phosphorref19_Code
    exact cond_f h (cond_t h6 (hK _))
  refine cond_of (fun h7 => ?_) fun h7 => ?_
  · refine call_phosphorref19_Code _ ?_
    unfold sh_phosphorref19_Code
    exact cond_f h (cond_f h6 (cond_t h7 (hK _)))
  · refine call_phosphorref19_Code _ ?_
    unfold sh_phosphorref19_Code
    exact cond_f h (cond_f h6 (cond_f h7 (hK _)))
theorem rReply_spec {k : T_keys_Keys} (hw : Wide (toL k)) (wd : List UInt8) (hwl : wd.length ≤ 100000) {K : ByteArray → World → Prop} (hK : ∀ w', Below w.heap.size w w' → K (strB (replyL (toL k) wd)) w') : c_phosphorref19_Reply k (strB wd) w K := by
  refine call_phosphorref19_Reply _ _ ?_
  unfold sh_phosphorref19_Reply
  refine nw_blk fun w1 hb1 hB1 hs1 => ?_
  obtain ⟨L, hL⟩ : ∃ L, toL k = L := ⟨_, rfl⟩
  rw [hL] at hw hK
  have h4 : L[4]?.getD 0 = k.Quiet := by rw [← hL]; rfl
  have h8 : L[8]?.getD 0 = k.Id := by rw [← hL]; rfl
  have h9 : L[9]?.getD 0 = k.Number := by rw [← hL]; rfl
  have h10 : L[10]?.getD 0 = k.Place := by rw [← hL]; rfl
  have ld : ∀ {w2 : World}, Blk w2 w.heap.size ty_phosphorref19_Keys (T_keys_Keys.rep.cells k) → w2.cell? ((⟨w.heap.size, 0, none⟩ : Addr).add 4) = some (.int .i64 k.Quiet) ∧ w2.cell? ((⟨w.heap.size, 0, none⟩ : Addr).add 8) = some (.int .i64 k.Id) ∧ w2.cell? ((⟨w.heap.size, 0, none⟩ : Addr).add 9) = some (.int .i64 k.Number) ∧ w2.cell? ((⟨w.heap.size, 0, none⟩ : Addr).add 10) = some (.int .i64 k.Place) :=
    fun hb => ⟨hb.cells 4 _ rfl, hb.cells 8 _ rfl, hb.cells 9 _ rfl, hb.cells 10 _ rfl⟩
  obtain ⟨l4, l8, l9, l10⟩ := ld hb1
  have hno : replyNo L wd = true → K (⟨#[]⟩ : ByteArray) w1 := fun h => by
    have := hK w1 hB1
    unfold replyL at this
    rw [if_pos h] at this
    exact this
  rw [reply_no, h4, h8, h9, h10] at hno
  refine joinP_of fun J1 hJ1 => ?_
  have hmain : replyNo L wd = false → J1 () w1 := by
    intro hn
    refine hJ1 _ _ ?_
    have hn' := hn
    rw [reply_no, h4, h8, h9, h10] at hn'
    simp only [Bool.or_eq_false_iff, Bool.and_eq_false_iff, decide_eq_false_iff_not] at hn'
    obtain ⟨⟨⟨⟨⟨hid, _⟩, _⟩, hn8⟩, hn9⟩, hn10⟩ := hn'
    have hw8 := hw 8
    have hw9 := hw 9
    have hw10 := hw 10
    rw [h8] at hw8
    rw [h9] at hw9
    rw [h10] at hw10
    have hrep : replyL L wd = [27, 95, 71] ++ joinC (rItems L) ++ [59] ++ wd ++ [27, 92] := by unfold replyL; rw [if_neg (by rw [hn]; simp)]
    have hne : rItems L ≠ [] := by
      unfold rItems rItem
      rw [h8, h9]
      rcases hid with h | h
      · rw [if_neg h]; simp
      · rw [if_neg h]; simp
    -- one number more
    have hone : ∀ (w2 : World) (c : UInt8) (n : Int) (pre : List UInt8) (J : ByteArray × Unit → World → Prop) (j : Nat), 0 ≤ n → n ≤ 9223372036854775807 → pre.length ≤ 1000 → w2.cell? ((⟨w.heap.size, 0, none⟩ : Addr).add j) = some (.int .i64 n) → Below w.heap.size w w2 →
        (∀ w3, Below w.heap.size w w3 → Below w2.heap.size w2 w3 → J (strB (pre ++ cat44 (rItem c n)), ()) w3) →
        ldI .i64 ((⟨w.heap.size, 0, none⟩ : Addr).add j) w2 fun t => cond (t != (0 : Int))
          (((((strB pre).size + (strB [44, c, 61]).size : Nat) : Int) ≤ 9223372036854775807) ∧ ldI .i64 ((⟨w.heap.size, 0, none⟩ : Addr).add j) w2 fun t2 => c_phosphorref19_decimal t2 w2 fun t3 w3 =>
            ((((strB pre ++ strB [44, c, 61]).size + t3.size : Nat) : Int) ≤ 9223372036854775807) ∧ J (((strB pre ++ strB [44, c, 61]) ++ t3), ()) w3)
          (J (strB pre, ()) w2) := by
      intro w2 c n pre J j hn0 hn1 hpl hl hB2 hJ
      refine ldI_of hl (cond_of (fun h => ?_) fun h => ?_)
      · have h : n ≠ 0 := by simpa using h
        refine ⟨by rw [strB_size, strB_size]; simp; omega, ldI_of hl ?_⟩
        have e : n = ((n.toNat : Nat) : Int) := by omega
        rw [e]
        refine decimal_spec n.toNat (.inr (by omega)) fun w3 hB3 => ?_
        have hdl : (Lib.decDigits n.toNat).length ≤ 20 := by
          have := itoa_len (n := n) (by omega) (by omega)
          unfold Lib.itoa at this
          rwa [if_neg (by omega)] at this
        refine ⟨by rw [strB_app, strB_size, strB_size]; simp; omega, ?_⟩
        have := hJ w3 (hB2.trans (hB3.mono hB2.size)) hB3
        rw [strB_app, strB_app]
        have hit : rItem c n = [c :: 61 :: Lib.decDigits n.toNat] := by unfold rItem Lib.itoa; rw [if_neg h, if_neg (by omega)]
        rw [hit] at this
        simpa [cat44] using this
      · have h : n = 0 := by simpa using h
        have := hJ w2 hB2 (Below.refl _ _)
        unfold rItem at this
        rw [if_pos h] at this
        simpa [cat44] using this
    have hlen : ∀ c n, 0 ≤ n → n ≤ 9223372036854775807 → (cat44 (rItem c n)).length ≤ 23 := fun c n a b => by
      by_cases h : n = 0
      · have e : rItem c n = [] := by unfold rItem; rw [if_pos h]
        rw [e]
        simp [cat44]
      · have e : rItem c n = [c :: 61 :: Lib.itoa n] := by unfold rItem; rw [if_neg h]
        have := itoa_len (n := n) (by omega) (by omega)
        rw [e]
        simp [cat44]
        omega
    have e0 : (⟨#[]⟩ : ByteArray) = strB [] := rfl
    have ei : (⟨#[44, 105, 61]⟩ : ByteArray) = strB [44, 105, 61] := rfl
    have eI : (⟨#[44, 73, 61]⟩ : ByteArray) = strB [44, 73, 61] := rfl
    have ep : (⟨#[44, 112, 61]⟩ : ByteArray) = strB [44, 112, 61] := rfl
    refine joinP_of fun J2 hJ2 => ?_
    rw [e0, ei]
    refine hone w1 105 k.Id [] J2 8 (by omega) hw8.2 (by simp) l8 hB1 fun w3 hB3 hB13 => hJ2 _ _ ?_
    have hb3 := hb1.ext hB13
    refine joinP_of fun J3 hJ3 => ?_
    rw [eI]
    have hl1 := hlen 105 k.Id (by omega) hw8.2
    have hl2 := hlen 73 k.Number (by omega) hw9.2
    have hl3 := hlen 112 k.Place (by omega) hw10.2
    refine hone w3 73 k.Number _ J3 9 (by omega) hw9.2 (by simp; omega) (ld hb3).2.2.1 hB3 fun w4 hB4 hB34 => hJ3 _ _ ?_
    have hb4 := hb3.ext hB34
    refine joinP_of fun J4 hJ4 => ?_
    rw [ep]
    refine hone w4 112 k.Place _ J4 10 (by omega) hw10.2 (by simp; omega) (ld hb4).2.2.2 hB4 fun w5 hB5 hB45 => hJ4 _ _ ?_
    have hcat : [] ++ cat44 (rItem 105 k.Id) ++ cat44 (rItem 73 k.Number) ++ cat44 (rItem 112 k.Place) = 44 :: joinC (rItems L) := by
      rw [← cat44_join _ hne]
      unfold rItems
      rw [h8, h9, h10, cat44_app, cat44_app, List.nil_append]
    dsimp only
    rw [hcat]
    refine slS_of (l := 1) (h := (44 :: joinC (rItems L)).length) (.inr rfl) (.inl ⟨rfl, rfl⟩) (by simp) (Nat.le_refl _) ?_
    rw [List.take_length, List.drop_succ_cons, List.drop_zero]
    obtain ⟨hl1', hl2'⟩ := reply_len hw
    have e1 : (⟨#[27, 95, 71]⟩ : ByteArray) = strB [27, 95, 71] := rfl
    have e2 : (⟨#[59]⟩ : ByteArray) = strB [59] := rfl
    have e3 : (⟨#[27, 92]⟩ : ByteArray) = strB [27, 92] := rfl
    rw [e1, e2, e3]
    simp only [strB_app, strB_size, List.length_append, List.length_cons, List.length_nil]
    refine ⟨by omega, by omega, by omega, by omega, ?_⟩
    rw [← hrep]
    exact hK w5 hB5
  rw [reply_no, h4, h8, h9, h10] at hmain
  have tail : ¬(k.Id = 0 ∧ k.Number = 0) → ldI .i64 ((⟨w.heap.size, 0, none⟩ : Addr).add 4) w1 fun t16 => cond (t16 == (1 : Int))
      (cond ((strB wd).toList == (⟨#[79, 75]⟩ : ByteArray).toList) (K (⟨#[]⟩ : ByteArray) w1)
        (ldI .i64 ((⟨w.heap.size, 0, none⟩ : Addr).add 4) w1 fun t25 => cond (decide (t25 ≥ (2 : Int))) (K (⟨#[]⟩ : ByteArray) w1) (ldI .i64 ((⟨w.heap.size, 0, none⟩ : Addr).add 8) w1 fun t30 => cond (decide (t30 < (0 : Int))) (K (⟨#[]⟩ : ByteArray) w1)
          (ldI .i64 ((⟨w.heap.size, 0, none⟩ : Addr).add 9) w1 fun t35 => cond (decide (t35 < (0 : Int))) (K (⟨#[]⟩ : ByteArray) w1) (ldI .i64 ((⟨w.heap.size, 0, none⟩ : Addr).add 10) w1 fun t40 => cond (decide (t40 < (0 : Int))) (K (⟨#[]⟩ : ByteArray) w1) (J1 (()) w1))))))
      (ldI .i64 ((⟨w.heap.size, 0, none⟩ : Addr).add 4) w1 fun t25 => cond (decide (t25 ≥ (2 : Int))) (K (⟨#[]⟩ : ByteArray) w1) (ldI .i64 ((⟨w.heap.size, 0, none⟩ : Addr).add 8) w1 fun t30 => cond (decide (t30 < (0 : Int))) (K (⟨#[]⟩ : ByteArray) w1)
          (ldI .i64 ((⟨w.heap.size, 0, none⟩ : Addr).add 9) w1 fun t35 => cond (decide (t35 < (0 : Int))) (K (⟨#[]⟩ : ByteArray) w1) (ldI .i64 ((⟨w.heap.size, 0, none⟩ : Addr).add 10) w1 fun t40 => cond (decide (t40 < (0 : Int))) (K (⟨#[]⟩ : ByteArray) w1) (J1 (()) w1))))) := by
    intro hid
    have hid' : (decide (k.Id = 0) && decide (k.Number = 0)) = false := by
      cases h : (decide (k.Id = 0) && decide (k.Number = 0)) with
      | false => rfl
      | true => exact absurd (by simpa using h) hid
    have rest : (decide (k.Quiet = 1) && decide (wd = [79, 75])) = false → ldI .i64 ((⟨w.heap.size, 0, none⟩ : Addr).add 4) w1 fun t25 => cond (decide (t25 ≥ (2 : Int))) (K (⟨#[]⟩ : ByteArray) w1) (ldI .i64 ((⟨w.heap.size, 0, none⟩ : Addr).add 8) w1 fun t30 => cond (decide (t30 < (0 : Int))) (K (⟨#[]⟩ : ByteArray) w1)
          (ldI .i64 ((⟨w.heap.size, 0, none⟩ : Addr).add 9) w1 fun t35 => cond (decide (t35 < (0 : Int))) (K (⟨#[]⟩ : ByteArray) w1) (ldI .i64 ((⟨w.heap.size, 0, none⟩ : Addr).add 10) w1 fun t40 => cond (decide (t40 < (0 : Int))) (K (⟨#[]⟩ : ByteArray) w1) (J1 (()) w1)))) := by
      intro hok
      rw [hid', hok, Bool.false_or, Bool.false_or] at hno hmain
      refine ldI_of l4 (cond_of (fun h => hno ?_) fun ha => ?_)
      · have h : k.Quiet ≥ 2 := of_decide_eq_true h
        rw [decide_eq_true h]; simp
      rw [show decide ((2 : Int) ≤ k.Quiet) = false from ha, Bool.false_or] at hno hmain
      refine ldI_of l8 (cond_of (fun h => hno ?_) fun hb => ?_)
      · rw [h]; simp
      refine ldI_of l9 (cond_of (fun h => hno ?_) fun hc => ?_)
      · rw [h]; simp
      refine ldI_of l10 (cond_of (fun h => hno ?_) fun hd => ?_)
      · rw [h]; simp
      exact hmain (by rw [hb, hc, hd]; rfl)
    refine ldI_of l4 (cond_of (fun hq => ?_) fun hq => ?_)
    · have hq : k.Quiet = 1 := by simpa using hq
      rw [word_eq]
      refine cond_of (fun h => hno ?_) fun h => rest ?_
      · rw [h, hq]; simp
      · rw [h]; simp
    · have hq : ¬ k.Quiet = 1 := by simpa using hq
      exact rest (by rw [decide_eq_false hq]; rfl)
  refine ldI_of l8 (cond_of (fun h0 => ?_) fun h0 => ?_)
  · have h0 : k.Id = 0 := by simpa using h0
    refine ldI_of l9 (cond_of (fun h1 => hno ?_) fun h1 => ?_)
    · have h1 : k.Number = 0 := by simpa using h1
      rw [h0, h1]
      simp
    · have h1 : ¬ k.Number = 0 := by simpa using h1
      exact tail fun hh => h1 hh.2
  · have h0 : ¬ k.Id = 0 := by simpa using h0
    exact tail fun hh => h0 hh.1
theorem Split2_spec {s : Slc} {x r : List UInt8} {g : Nat} (hs : Rd E_uint8 w s (x ++ 59 :: r)) (hx : ∀ b ∈ x, b ≠ 59) (hsa : s.a = some ⟨g, 0, none⟩) (hl : (x ++ 59 :: r).length ≤ 1000000) {K : Slc → Slc → World → Prop}
    (hK : ∀ p q w', Rd E_uint8 w' p x → Rd E_uint8 w' q r → Below w.heap.size w w' → K p q w') : c_keys_Split s w K := by
  refine call_keys_Split _ ?_
  unfold sh_keys_Split
  refine lits_bytes (bs := [59]) rfl rfl (by decide) fun t w1 ht _ hB1 hs1 _ => ?_
  refine bytesCut_spec 59 (hs.ext hB1) hx hsa ht hl fun p q hp hq hpa hqa => ?_
  have hl' : x.length ≤ 1000000 ∧ r.length ≤ 1000000 := by
    rw [List.length_append, List.length_cons] at hl
    omega
  refine Clone_spec hp hpa hl'.1 fun p' w4 hp' hB4 => ?_
  refine Clone_spec (hq.ext hB4) hqa hl'.2 fun q' w5 hq' hB5 => ?_
  have e4 : w1.heap.size ≤ w4.heap.size := hB4.size
  exact hK p' q' w5 (hp'.ext hB5).rd hq'.rd ((hB1.drew.trans (hB4.mono (by show _ ≤ w1.heap.size; omega))).trans (hB5.mono (by omega)))
theorem known_spec (hT : Tab w) {K : Bool → World → Prop} (hK : ∀ w', Below w.heap.size w w' → K true w') : c_phosphorlaw19_known w K := by
  refine call_phosphorlaw19_known ?_
  unfold sh_phosphorlaw19_known
  refine lits_bytes (bs := [97, 61, 84, 44, 102, 61, 49, 48, 48, 44, 122, 61, 45, 53, 44, 105, 61, 51]) rfl rfl (by decide) fun t w2 ht _ hB2 hs2 _ => ?_
  refine Parse_spec ht fun w3 hB3 => ?_
  have hp : parseL [97, 61, 84, 44, 102, 61, 49, 48, 48, 44, 122, 61, 45, 53, 44, 105, 61, 51] = ([84, 100, 0, 97, 0, 100, 0, 0, 3, 0, 0, 0, 0, 0, 0, 0, 0, 0, 0, 0, -5, 0], 0) := by decide +kernel
  rw [hp]
  refine box_of (t := ty_keys_Keys) (vs := T_keys_Keys.rep.cells (ofL [84, 100, 0, 97, 0, 100, 0, 0, 3, 0, 0, 0, 0, 0, 0, 0, 0, 0, 0, 0, -5, 0])) rfl fun w5 hb5 hB5 hs5 => ?_
  have e2 := hB2.size
  have e3 := hB3.size
  refine lits_bytes (bs := [97, 61, 112] ++ 59 :: [120, 59, 121]) rfl rfl (by decide) fun t2 w7 ht2 _ hB7 hs7 hta => ?_
  refine Split2_spec ht2 (by decide) hta (by decide) fun p q w8 hp8 hq8 hB8 => ?_
  have hb8 := (hb5.ext hB7).ext hB8
  have hB58 : Below w.heap.size w w8 := (((hB2.trans (hB3.mono (by omega))).trans (hB5.mono (by omega))).trans (hB7.mono (by omega))).trans (hB8.mono (by omega))
  refine cond_t rfl ?_
  refine ldI_of (x := 84) (hb8.cells 0 _ rfl) (cond_t rfl ?_)
  refine ldI_of (x := 100) (hb8.cells 5 _ rfl) (cond_t rfl ?_)
  refine ldI_of (x := -5) (hb8.cells 20 _ rfl) (cond_t rfl ?_)
  refine ldI_of (x := 3) (hb8.cells 8 _ rfl) (cond_t rfl ?_)
  refine ldI_of (x := 100) (hb8.cells 1 _ rfl) (cond_t rfl ?_)
  refine toStr_spec hp8 (cond_t (by rw [strB_toList, show (⟨#[97, 61, 112]⟩ : ByteArray) = strB [97, 61, 112] from rfl, strB_toList]; rfl) ?_)
  refine toStr_spec hq8 (cond_t (by rw [strB_toList, show (⟨#[120, 59, 121]⟩ : ByteArray) = strB [120, 59, 121] from rfl, strB_toList]; rfl) ?_)
  refine ldS_of (x := ofL [84, 100, 0, 97, 0, 100, 0, 0, 3, 0, 0, 0, 0, 0, 0, 0, 0, 0, 0, 0, -5, 0]) hb8.cells ?_
  have hTo : toL (ofL [84, 100, 0, 97, 0, 100, 0, 0, 3, 0, 0, 0, 0, 0, 0, 0, 0, 0, 0, 0, -5, 0]) = [84, 100, 0, 97, 0, 100, 0, 0, 3, 0, 0, 0, 0, 0, 0, 0, 0, 0, 0, 0, -5, 0] := rfl
  refine Reply_spec (hT.ext hB58) (by
    intro i
    rw [hTo]
    cases h : ([84, 100, 0, 97, 0, 100, 0, 0, 3, 0, 0, 0, 0, 0, 0, 0, 0, 0, 0, 0, -5, 0] : List Int)[i]? with
    | none => decide
    | some x =>
      have hm := List.mem_of_getElem? h
      simp only [List.mem_cons, List.mem_nil_iff, or_false] at hm
      show -9223372036854775808 ≤ x ∧ x ≤ 9223372036854775807
      omega) [79, 75] (by decide) fun r w11 hr11 hB11 => ?_
  refine toStr_spec hr11 ?_
  rw [hTo]
  have hr : replyL [84, 100, 0, 97, 0, 100, 0, 0, 3, 0, 0, 0, 0, 0, 0, 0, 0, 0, 0, 0, -5, 0] [79, 75] = [27, 95, 71, 105, 61, 51, 59, 79, 75, 27, 92] := by decide +kernel
  rw [hr, strB_toList, show (⟨#[27, 95, 71, 105, 61, 51, 59, 79, 75, 27, 92]⟩ : ByteArray) = strB [27, 95, 71, 105, 61, 51, 59, 79, 75, 27, 92] from rfl, strB_toList]
  have e8 := hB58.size
  exact hK w11 (hB58.trans (hB11.mono (by omega)))
theorem eqK_self (a : T_keys_Keys) : ((a.Action == a.Action) && ((a.Medium == a.Medium) && ((a.Zip == a.Zip) && ((a.What == a.What) && ((a.Quiet == a.Quiet) && ((a.Format == a.Format) && ((a.W == a.W) && ((a.H == a.H) && ((a.Id == a.Id) && ((a.Number == a.Number) && ((a.Place == a.Place) && ((a.More == a.More) && ((a.X == a.X) && ((a.Y == a.Y) && ((a.PW == a.PW) && ((a.PH == a.PH) && ((a.DX == a.DX) && ((a.DY == a.DY) && ((a.Rows == a.Rows) && ((a.Cols == a.Cols) && ((a.Z == a.Z) && ((a.Stay == a.Stay) && true)))))))))))))))))))))) = true := by
  simp
theorem replies_law {k : T_keys_Keys} (hT : Tab w) (hw : Wide (toL k)) (wd : ByteArray) (e : Int) {K : Bool → World → Prop} (hK : ∀ w', Below w.heap.size w w' → K true w') : c_phosphorlaw19_KeysReplies k wd e w K := by
  refine call_phosphorlaw19_KeysReplies _ _ _ ?_
  unfold sh_phosphorlaw19_KeysReplies
  rw [← strB_eta wd]
  generalize wd.data.toList = bs
  refine nw_blk fun w1 hb1 hB1 hs1 => ?_
  refine known_spec (hT.ext hB1) fun w2 hB2 => cond_f rfl ?_
  have hB12 : Below w.heap.size w w2 := hB1.trans (hB2.mono (by omega))
  refine cond_of (fun _ => hK w2 hB12) fun hl => ?_
  have hl := of_decide_eq_false hl
  rw [strB_size] at hl
  have hb2 : Blk w2.drew w.heap.size ty_keys_Keys (T_keys_Keys.rep.cells k) := (hb1.ext hB2).drew
  have hB12d : Below w.heap.size w w2.drew := hB12.drew
  have e2 : w.heap.size ≤ w2.drew.heap.size := hB12d.size
  refine ldS_of (x := k) hb2.cells (ldS_of (x := k) hb2.cells ?_)
  have hend : ∀ {w5 : World} {t : List UInt8}, Below w.heap.size w w5 → cond ((strB t).toList == (strB t).toList)
             (c_keys_Code e w5 fun t22 w6 =>
              c_phosphorref19_Code e w6 fun t24 w7 =>
              cond (t22.toList == t24.toList)
                (c_keys_First  w7 fun t28 w8 =>
                 c_phosphorref19_First  w8 fun t29 w9 =>
                 K ((t28.Action == t29.Action) && ((t28.Medium == t29.Medium) && ((t28.Zip == t29.Zip) && ((t28.What == t29.What) && ((t28.Quiet == t29.Quiet) && ((t28.Format == t29.Format) && ((t28.W == t29.W) && ((t28.H == t29.H) && ((t28.Id == t29.Id) && ((t28.Number == t29.Number) && ((t28.Place == t29.Place) && ((t28.More == t29.More) && ((t28.X == t29.X) && ((t28.Y == t29.Y) && ((t28.PW == t29.PW) && ((t28.PH == t29.PH) && ((t28.DX == t29.DX) && ((t28.DY == t29.DY) && ((t28.Rows == t29.Rows) && ((t28.Cols == t29.Cols) && ((t28.Z == t29.Z) && ((t28.Stay == t29.Stay) && true)))))))))))))))))))))) w9)
                (K false w7))
             (K false w5) := by
    intro w5 t hB5
    refine cond_t (by simp) (Code_both e fun t' => cond_t (by simp) ?_)
    refine First_spec fun w8 hB8 => rFirst_spec fun w9 hB9 => ?_
    rw [eqK_self]
    have e5 := hB5.size
    have e8 := hB8.size
    exact hK w9 ((hB5.trans (hB8.mono (by omega))).trans (hB9.mono (by omega)))
  refine Reply_spec (hT.ext hB12d) hw bs (by omega) fun q w3 hq hB3 => ⟨(hb2.ext hB3).cells, ?_⟩
  have hb3 := hb2.ext hB3
  have hB3' := hB12d.trans (hB3.mono (by omega))
  have e3 := hB3'.size
  refine ⟨toStr_spec hq ⟨hb3.cells, rReply_spec hw bs (by omega) fun w5 hB5 => hend (hB3'.trans (hB5.mono (by omega)))⟩, ?_⟩
  refine rReply_spec hw bs (by omega) fun w10 hB10 => ?_
  refine toStr_spec (hq.ext hB10) ⟨(hb3.ext hB10).cells, hend (hB3'.trans (hB10.mono (by omega)))⟩
end
end Go.Proofs.YtpadlibcalomnaaDoor
