/- Words cut off; a script's number. -/
import Derived.Test.YtpadlibcalomnaaDoorS4
import Derived.RangeFuncBox
import Derived.RangeFuncLeaves
import Derived.RangeFuncFrom
import Derived.RangeFuncWrites
import Derived.Shelf.Abstract
import Derived.WalkKit
import Derived.OwnWalkIn
import Derived.TacticsInMore
import Derived.LoopNIn
import Derived.LoopIn
set_option linter.unusedVariables false
namespace Go.Proofs.YtpadlibcalomnaaDoor
open Go.Vc Go.RowKit Go.Shelf
set_option maxRecDepth 400000
attribute [local go_sem] Oper.semAt_some
section
variable {w : World}
theorem Cut_one (s : List UInt8) (c : UInt8) (hl : s.length ≤ 1000000) {i : Nat} (hi : Lib.indexByte s c = i) (hil : i < s.length) {K : ByteArray → ByteArray → Bool → World → Prop}
    (h1 : K (strB (s.take i)) (strB (s.drop (i + 1))) true w.drew) : c_strings_Cut (strB s) (strB [c]) w K := by
  refine call_strings_Cut _ _ ?_
  unfold sh_strings_Cut
  refine call_internal_stringslite_Cut _ _ ?_
  unfold sh_internal_stringslite_Cut
  refine Calls.mono (Tryd.stringslite_Index_one (strB s) c w) ?_
  rintro e w' ⟨rfl, rfl⟩
  refine ⟨_, rfl, ?_⟩
  rw [show (strB s).data.toList = s from rfl, hi]
  refine cond_t (decide_eq_true (by omega)) ?_
  refine slS_of (l := 0) (h := i) (.inl ⟨rfl, rfl⟩) (.inr rfl) (by omega) (by omega) ?_
  have hw : IntKind.i64.wrap ((i : Int) + ((strB [c]).size : Int)) = ((i + 1 : Nat) : Int) := by
    rw [strB_size, i64_in (by simp only [List.length_cons, List.length_nil]; omega)]
    simp
  rw [hw]
  refine slS_of (l := i + 1) (h := s.length) (.inr rfl) (.inl ⟨rfl, rfl⟩) (by omega) (by omega) ?_
  rw [List.take_length, List.drop_zero]
  exact h1
theorem TrimPrefix_one (s : List UInt8) (c : UInt8) {K : ByteArray → World → Prop} (hK : K (strB (if s.head? = some c then s.drop 1 else s)) w) : c_strings_TrimPrefix (strB s) (strB [c]) w K := by
  refine call_strings_TrimPrefix _ _ ?_
  unfold sh_strings_TrimPrefix
  refine call_internal_stringslite_TrimPrefix _ _ ?_
  unfold sh_internal_stringslite_TrimPrefix
  refine prefix_one s c (cond_of (fun h => ?_) fun h => ?_)
  · have h := of_decide_eq_true h
    rw [if_pos h] at hK
    refine slS_of (l := 1) (h := s.length) (.inr rfl) (.inl ⟨rfl, rfl⟩) ?_ (Nat.le_refl _) ?_
    · cases s with
      | nil => cases h
      | cons a s => simp
    · rw [List.take_length]
      exact hK
  · rw [if_neg (of_decide_eq_false h)] at hK
    exact hK
set_option maxHeartbeats 2000000 in
theorem number_in (hT : Tab w) (s x : List UInt8) (n : Int) (hl : s.length ≤ 18) (ha : Lib.atoi s = some n) (h0 : -9223372036854775808 ≤ n) (h1 : n ≤ 9223372036854775807) (hi : Lib.itoa n = s) (hx : (if s.head? = some 45 then s.drop 1 else s) = x) (h9 : x.length ≤ 9) :
    CallsIn Fence.wide 9 Tryd.prog 82 #[.string (strB s)] w fun e w' => e = .returned (.tuple #[.int .i64 n, .bool true]) ∧ Below w.heap.size w w' := by
  have hAtoi := fun m => (callsIn_wide (n := m)).2 (Tryd.strconv_Atoi (strB s) n (by rw [strB_size]; exact hl) ha w)
  have hItoa := fun m (w1 : World) (hT1 : Tab w1) => (callsIn_wide (n := m)).2 (Itoa_spec hT1 h0 h1 (K := fun r w' => r = strB s ∧ Below w1.heap.size w1 w') fun w' hB => ⟨by rw [hi], hB⟩)
  have hTrim := fun m (w1 : World) => (callsIn_wide (n := m)).2 (TrimPrefix_one (w := w1) s 45 (K := fun r w' => r = strB x ∧ w' = w1) ⟨by rw [hx], rfl⟩)
  refine callsIn_of_wp Tryd.func82 rfl trivial ?_ rfl
  simp only [Tryd.ntmps82, List.size_toArray, List.length_cons, List.length_nil, Nat.reduceAdd, Nat.reduceSub, Array.replicate_succ, Array.replicate_zero, List.push_toArray, List.append_toArray, List.nil_append, List.cons_append]
  gi_wp2
  refine ⟨trivial, (hAtoi _).mono ?_⟩
  rintro e w1 ⟨rfl, t, rfl⟩
  gi_wp2
  have hB1 : Below w.heap.size w (Lib.bytesWorld w 5 t) := ⟨rfl, rfl, rfl, by rw [Lib.bytesWorld_size]; omega, fun k hk => Lib.bytesWorld_at_old w _ _ k hk⟩
  refine ⟨trivial, (hItoa _ _ (hT.ext hB1)).mono ?_⟩
  rintro e w2 ⟨r0, rfl, rfl, hB2⟩
  gi_wp2
  refine ⟨trivial, (hTrim _ _).mono ?_⟩
  rintro e w3 ⟨r0, rfl, rfl, rfl⟩
  gi_wp2
  have h9' : decide (((strB x).size : Int) ≤ 9) = true := decide_eq_true (by rw [strB_size]; omega)
  rw [h9']
  go_ret2
  exact ⟨rfl, hB1.trans (hB2.mono hB1.size)⟩
theorem number_spec9 (hT : Tab w) (s x : List UInt8) (n : Int) (hl : s.length ≤ 18) (ha : Lib.atoi s = some n) (h0 : -9223372036854775808 ≤ n) (h1 : n ≤ 9223372036854775807) (hi : Lib.itoa n = s) (hx : (if s.head? = some 45 then s.drop 1 else s) = x) (h9 : x.length ≤ 9)
    {K : Int → Bool → World → Prop} (hK : ∀ w', Below w.heap.size w w' → K n true w') : c_script_number (strB s) w K := by
  refine Calls.mono (callsIn_wide.1 (number_in hT s x n hl ha h0 h1 hi hx h9)) ?_
  rintro e w' ⟨rfl, hB⟩
  exact ⟨_, _, rfl, hK w' hB⟩
/-- The two lines that known() reads. -/
def line1 : List UInt8 := [102, 101, 101, 100, 32, 97, 37, 49, 98]
def line2 : List UInt8 := [115, 105, 122, 101, 32, 51, 32, 45, 52]
theorem nwI {K : Addr → World → Prop} (hK : ∀ w', Blk w' w.heap.size ty_script_Item [(.slice none 0 0), (.bool false), (.int .i64 0), (.int .i64 0)] → Below w.heap.size w w' → w'.heap.size = w.heap.size + 1 → K ⟨w.heap.size, 0, none⟩ w') :
    nw ty_script_Item [(.slice none 0 0), (.bool false), (.int .i64 0), (.int .i64 0)] w K := nw_blk hK
theorem read1_spec {K : T_script_Item → Bool → World → Prop} (hK : ∀ (q : Slc) w', Go.Vc.Own E_uint8 w' w.heap.size q [97, 27] → Below w.heap.size w w' → K ⟨q, false, 0, 0⟩ true w') : c_script_read (strB line1) w K := by
  refine call_script_read _ ?_
  unfold sh_script_read
  refine nw_blk fun w1 hb1 hB1 hs1 => ?_
  refine Cut_one line1 32 (by decide) (i := 4) (by decide) (by decide) ?_
  have hB1d : Below w.heap.size w w1.drew := hB1.drew
  have e1 : ((strB (line1.take 4)).toList == (⟨#[102, 101, 101, 100]⟩ : ByteArray).toList) = true := by rw [strB_toList, show (⟨#[102, 101, 101, 100]⟩ : ByteArray) = strB [102, 101, 101, 100] from rfl, strB_toList]; decide
  refine cond_t e1 ?_
  have hd : line1.drop (4 + 1) = [97, 37, 49, 98] := rfl
  have hu : unqL [97, 37, 49, 98] = ([97, 27], 0) := by decide +kernel
  rw [hd]
  refine Unquote_spec [97, 37, 49, 98] (by decide) fun q w3 hq hB3 => ?_
  rw [hu] at hq ⊢
  have hb3 : Blk w3 w.heap.size ty_script_Item _ := (hb1.drew).ext hB3
  have hs1' : w1.drew.heap.size = w.heap.size + 1 := hs1
  refine stK_blk hb3 (by simp) fun w4 hb4 hg4 hs4 => ?_
  refine ldS_of (x := (⟨q, false, 0, 0⟩ : T_script_Item)) hb4.cells ?_
  have hB13 : Below w.heap.size w w3 := hB1d.trans (hB3.mono (by omega))
  refine hK q w4 ((hq.kept hg4 ?_).base (by omega)) (hB13.grown hg4 hB13.size fun k hk => by cases hk; exact Nat.le_refl _)
  cases hk : q.blk with
  | none => exact .inl rfl
  | some k =>
    have := (hq.lt k hk).1
    exact .inr fun e => by cases e; omega
theorem read2_spec (hT : Tab w) {K : T_script_Item → Bool → World → Prop} (hK : ∀ w', Below w.heap.size w w' → K ⟨⟨none, 0, 0⟩, true, 3, -4⟩ true w') : c_script_read (strB line2) w K := by
  refine call_script_read _ ?_
  unfold sh_script_read
  refine nw_blk fun w1 hb1 hB1 hs1 => ?_
  refine Cut_one line2 32 (by decide) (i := 4) (by decide) (by decide) ?_
  have e1 : ((strB (line2.take 4)).toList == (⟨#[102, 101, 101, 100]⟩ : ByteArray).toList) = false := by rw [strB_toList, show (⟨#[102, 101, 101, 100]⟩ : ByteArray) = strB [102, 101, 101, 100] from rfl, strB_toList]; decide
  have e2 : ((strB (line2.take 4)).toList == (⟨#[115, 105, 122, 101]⟩ : ByteArray).toList) = true := by rw [strB_toList, show (⟨#[115, 105, 122, 101]⟩ : ByteArray) = strB [115, 105, 122, 101] from rfl, strB_toList]; decide
  refine cond_f e1 (cond_t e2 ?_)
  have hd : line2.drop (4 + 1) = [51, 32, 45, 52] := rfl
  rw [hd]
  refine Cut_one [51, 32, 45, 52] 32 (by decide) (i := 1) (by decide) (by decide) ?_
  have hB1d : Below w.heap.size w w1.drew.drew := hB1.drew.drew
  have hs1' : w1.drew.drew.heap.size = w.heap.size + 1 := hs1
  refine number_spec9 (hT.ext hB1d) [51] [51] 3 (by decide) (by decide) (by decide) (by decide) (by decide +kernel) (by decide) (by decide) fun w6 hB6 => ?_
  have hB16 := hB1d.trans (hB6.mono (by omega))
  have s6 := hB6.size
  refine number_spec9 (hT.ext hB16) [45, 52] [52] (-4) (by decide) (by decide) (by decide) (by decide) (by decide +kernel) (by decide) (by decide) fun w7 hB7 => ?_
  have hB17 := hB16.trans (hB7.mono (by omega))
  refine cond_t rfl ?_
  have hb7 : Blk w7 w.heap.size ty_script_Item _ := ((hb1.drew.drew).ext hB6).ext hB7
  refine stK_blk hb7 (by simp) fun w8 hb8 hg8 hs8 => ?_
  refine ldS_of (x := (⟨⟨none, 0, 0⟩, true, 3, -4⟩ : T_script_Item)) hb8.cells ?_
  exact hK w8 (hB17.grown hg8 hB17.size fun k hk => by cases hk; exact Nat.le_refl _)
end
end Go.Proofs.YtpadlibcalomnaaDoor
