/- Graphics keys, plain: 22 numbers; their text; a text as keys; a reply. No program in sight. -/
import Derived.Test.YtpadlibcalomnaaDoorMem4
import Derived.Lib.Bytealg
import Derived.Lib.ItoaNum
import Derived.Lib.Join
set_option linter.unusedVariables false
set_option maxRecDepth 20000
namespace Go.Proofs.YtpadlibcalomnaaDoor
open Go.Vc

def firstL : List Int := [116, 100, 0, 97, 0, 32, 0, 0, 0, 0, 0, 0, 0, 0, 0, 0, 0, 0, 0, 0, 0, 0]
def zeroL : List Int := List.replicate 22 0
def signsB : List UInt8 := [97, 116, 111, 100]
def numsB : List UInt8 := [113, 102, 115, 118, 105, 73, 112, 109, 120, 121, 119, 104, 88, 89, 114, 99, 67]
/-- The letters of the 22 numbers, in their order. -/
def chs : List UInt8 := [97, 116, 111, 100, 113, 102, 115, 118, 105, 73, 112, 109, 120, 121, 119, 104, 88, 89, 114, 99, 122, 67]
def signIx (c : UInt8) : Option Nat := if Lib.indexByte signsB c < 0 then none else some (Lib.indexByte signsB c).toNat
def numPos (j : Nat) : Nat := if j = 16 then 21 else j + 4
def numIx (c : UInt8) : Option Nat := if Lib.indexByte numsB c < 0 then none else some (numPos (Lib.indexByte numsB c).toNat)
def readD : Nat → List UInt8 → Option Nat
  | n, [] => some n
  | n, b :: r => if b < 48 ∨ 57 < b then none else readD (10 * n + (b.toNat - 48)) r
def readN (v : List UInt8) : Option Nat := if v = [] ∨ 10 < v.length then none else (readD 0 v).bind fun n => if n ≤ 4294967295 then some n else none
def near (m : Int) : Bool := decide (-1073741824 ≤ m) && decide (m < 1073741824)
def depthL (v : List UInt8) : Option Int := match v with
  | 45 :: r => (readN r).bind fun n => if near (-(n : Int)) then some (-(n : Int)) else none
  | v => (readN v).bind fun n => if near (n : Int) then some (n : Int) else none
def isLetter (c : UInt8) : Bool := (decide (65 ≤ c) && decide (c ≤ 90)) || (decide (97 ≤ c) && decide (c ≤ 122))
def visB (b : UInt8) : Bool := decide (33 ≤ b) && decide (b ≤ 126)
def sgnL (k : List Int) (j : Nat) (v : List UInt8) : Option (List Int) := match v with
  | [b] => if visB b then some (k.set j (b.toNat : Int)) else none
  | _ => none
/-- A key and its value. -/
def oneL (k : List Int) (s : List UInt8) : Option (List Int) := match s with
  | c :: e :: v =>
    if e ≠ 61 ∨ isLetter c = false then none
    else if c = 122 then (depthL v).map fun m => k.set 20 m
    else match signIx c with
      | some j => sgnL k j v
      | none => match numIx c with
        | some j => (readN v).map fun n => k.set j (n : Int)
        | none => some k
  | _ => none
/-- What stands between commas. -/
def splitC : List UInt8 → List (List UInt8)
  | [] => [[]]
  | b :: r => if b = 44 then [] :: splitC r else match splitC r with
    | h :: t => (b :: h) :: t
    | [] => [[b]]
theorem splitC_ne (s : List UInt8) : splitC s ≠ [] := by
  cases s with
  | nil => simp [splitC]
  | cons b r =>
    rw [splitC]
    split
    · simp
    · split <;> simp
def parseL (b : List UInt8) : List Int × Int := if 512 < b.length then (zeroL, 5) else if b = [] then (firstL, 0) else match (splitC b).foldlM oneL firstL with
  | some k => (k, 0)
  | none => (zeroL, 3)
def signOk (i : Nat) (x : Int) : Bool := (decide (x = 0) && decide (i = 2)) || (decide (33 ≤ x) && decide (x ≤ 126) && decide (x ≠ 44))
def fieldOk (i : Nat) (x : Int) : Bool := if i < 4 then signOk i x else if i = 20 then near x else decide (0 ≤ x) && decide (x ≤ 4294967295)
def mayL (k : List Int) : Bool := (List.range 22).all fun i => fieldOk i (k[i]?.getD 0)
def mkI (i : Nat) (x : Int) : List UInt8 := if i < 4 then [chs.getD i 0, 61, u8 x] else chs.getD i 0 :: 61 :: Lib.itoa x
def itemI (k : List Int) (i : Nat) : List (List UInt8) := if k[i]?.getD 0 = firstL[i]?.getD 0 then [] else [mkI i (k[i]?.getD 0)]
def itemsL (k : List Int) : List (List UInt8) := (List.range 22).flatMap (itemI k)
def joinC (l : List (List UInt8)) : List UInt8 := Lib.join l [44]
def textL (k : List Int) : List UInt8 := if mayL k then joinC (itemsL k) else []
/-! ### Joined and split -/
theorem joinC_cons (x : List UInt8) (l : List (List UInt8)) (h : l ≠ []) : joinC (x :: l) = x ++ 44 :: joinC l := by
  unfold joinC Lib.join
  cases l with
  | nil => exact absurd rfl h
  | cons y l => simp [List.intercalate, List.intersperse]
theorem joinC_one (x : List UInt8) : joinC [x] = x := by simp [joinC, Lib.join, List.intercalate, List.intersperse]
theorem joinC_nil : joinC [] = [] := rfl
theorem splitC_app (x : List UInt8) (hx : ∀ b ∈ x, b ≠ 44) (r : List UInt8) : splitC (x ++ 44 :: r) = x :: splitC r := by
  induction x with
  | nil => simp [splitC]
  | cons b x ih =>
    rw [List.cons_append, splitC, if_neg (hx b (by simp)), ih fun c hc => hx c (by simp [hc])]
theorem splitC_one (x : List UInt8) (hx : ∀ b ∈ x, b ≠ 44) : splitC x = [x] := by
  induction x with
  | nil => simp [splitC]
  | cons b x ih => rw [splitC, if_neg (hx b (by simp)), ih fun c hc => hx c (by simp [hc])]
theorem splitC_cat (x y : List UInt8) : splitC (x ++ 44 :: y) = splitC x ++ splitC y := by
  induction x with
  | nil => simp [splitC]
  | cons b x ih =>
    rw [List.cons_append, splitC, splitC, ih]
    split
    · simp
    · cases h : splitC x with
      | nil => exact absurd h (splitC_ne x)
      | cons a t => simp
theorem splitC_join : ∀ (l : List (List UInt8)), l ≠ [] → (∀ x ∈ l, ∀ b ∈ x, b ≠ 44) → splitC (joinC l) = l
  | [], h, _ => absurd rfl h
  | [x], _, h => by rw [joinC_one, splitC_one x (h x (by simp))]
  | x :: y :: l, _, h => by
    rw [joinC_cons x (y :: l) (by simp), splitC_app x (h x (by simp)), splitC_join (y :: l) (by simp) fun z hz => h z (by simp [hz])]
/-! ### Numbers there and back -/
theorem digit_range {d : Nat} (h : d < 10) : ¬ (UInt8.ofNat (48 + d) < 48 ∨ 57 < UInt8.ofNat (48 + d)) ∧ (UInt8.ofNat (48 + d)).toNat - 48 = d ∧ UInt8.ofNat (48 + d) ≠ 44 ∧ UInt8.ofNat (48 + d) ≠ 45 := by
  have : d = 0 ∨ d = 1 ∨ d = 2 ∨ d = 3 ∨ d = 4 ∨ d = 5 ∨ d = 6 ∨ d = 7 ∨ d = 8 ∨ d = 9 := by omega
  rcases this with rfl | rfl | rfl | rfl | rfl | rfl | rfl | rfl | rfl | rfl <;> decide
theorem readD_append (x y : List UInt8) : ∀ n, readD n (x ++ y) = (readD n x).bind fun m => readD m y := by
  induction x with
  | nil => intro n; rfl
  | cons b x ih =>
    intro n
    rw [List.cons_append, readD, readD]
    split
    · rfl
    · exact ih _
theorem readD_dec (u : Nat) : readD 0 (Lib.decDigits u) = some u := by
  induction u using Nat.strongRecOn with
  | _ u ih =>
    rw [Lib.decDigits]
    split
    · rename_i h
      obtain ⟨h1, h2, _⟩ := digit_range h
      rw [readD, if_neg h1, readD, h2]
      simp
    · rename_i h
      obtain ⟨h1, h2, _⟩ := digit_range (d := u % 10) (by omega)
      rw [readD_append, ih (u / 10) (by omega), Option.bind_some, readD, if_neg h1, readD, h2]
      congr 1
      omega
theorem dec_len (u n : Nat) (hn : 1 ≤ n) (h : u < 10 ^ n) : (Lib.decDigits u).length ≤ n ∧ Lib.decDigits u ≠ [] := by
  induction n generalizing u with
  | zero => omega
  | succ n ih =>
    rw [Lib.decDigits]
    split
    · simp
    · rename_i h10
      have : n ≠ 0 := fun e => by subst e; simp at h; omega
      have := (ih (u / 10) (by omega) (by rw [Nat.pow_succ] at h; omega)).1
      refine ⟨by rw [List.length_append, List.length_singleton]; omega, by simp⟩
theorem dec_mem (u : Nat) : ∀ b ∈ Lib.decDigits u, b ≠ 44 ∧ b ≠ 45 := by
  induction u using Nat.strongRecOn with
  | _ u ih =>
    rw [Lib.decDigits]
    split
    · rename_i h
      intro b hb
      rw [List.mem_singleton] at hb
      subst hb
      exact (digit_range h).2.2
    · rename_i h
      intro b hb
      rcases List.mem_append.1 hb with hb | hb
      · exact ih (u / 10) (by omega) b hb
      · rw [List.mem_singleton] at hb
        subst hb
        exact (digit_range (d := u % 10) (by omega)).2.2
theorem readN_dec {u : Nat} (h : u ≤ 4294967295) : readN (Lib.decDigits u) = some u := by
  obtain ⟨h1, h2⟩ := dec_len u 10 (by omega) (by omega)
  unfold readN
  rw [if_neg (by intro hh; rcases hh with hh | hh; exact h2 hh; omega), readD_dec, Option.bind_some, if_pos h]
theorem itoa_mem (x : Int) : ∀ b ∈ Lib.itoa x, b ≠ 44 := by
  unfold Lib.itoa
  split
  · intro b hb
    rcases List.mem_cons.1 hb with rfl | hb
    · decide
    · exact (dec_mem _ b hb).1
  · intro b hb
    exact (dec_mem _ b hb).1
theorem depthL_itoa {x : Int} (h : near x = true) : depthL (Lib.itoa x) = some x := by
  have h' := h
  unfold near at h'
  simp only [Bool.and_eq_true, decide_eq_true_eq] at h'
  unfold Lib.itoa
  split
  · rename_i hx
    show (readN _).bind _ = _
    rw [readN_dec (by omega), Option.bind_some, show (-(x.natAbs : Int)) = x by omega, if_pos h]
  · rename_i hx
    obtain ⟨h1, h2⟩ := dec_len x.toNat 10 (by omega) (by omega)
    have hd : ∀ r, Lib.decDigits x.toNat ≠ 45 :: r := fun r e => (dec_mem x.toNat 45 (by rw [e]; simp)).2 rfl
    have : depthL (Lib.decDigits x.toNat) = (readN (Lib.decDigits x.toNat)).bind fun n => if near (n : Int) then some (n : Int) else none := by
      cases hc : Lib.decDigits x.toNat with
      | nil => rfl
      | cons b r =>
        have hb : b ≠ 45 := fun e => hd r (by rw [hc, e])
        unfold depthL
        split
        · rename_i r' he
          cases he
          exact absurd rfl hb
        · rfl
    rw [this, readN_dec (by omega), Option.bind_some, show ((x.toNat : Nat) : Int) = x by omega, if_pos h]
/-! ### A text there and back -/
theorem one_mk {i : Nat} {x : Int} (hi : i < 22) (h : fieldOk i x = true) (hd : x ≠ firstL[i]?.getD 0) (st : List Int) : oneL st (mkI i x) = some (st.set i x) ∧ ∀ b ∈ mkI i x, b ≠ 44 := by
  have hcases : i = 0 ∨ i = 1 ∨ i = 2 ∨ i = 3 ∨ i = 20 ∨ (4 ≤ i ∧ i ≠ 20) := by omega
  have hsign : ∀ c : UInt8, c ∈ [(97 : UInt8), 116, 111, 100] → signOk i x = true → x ≠ 0 → (∀ j, signIx c = some j → j = i) → (signIx c).isSome → oneL st [c, 61, u8 x] = some (st.set i x) ∧ ∀ b ∈ [c, 61, u8 x], b ≠ 44 := by
    intro c hc hs h0 hj hsome
    unfold signOk at hs
    rw [decide_eq_false h0, Bool.false_and, Bool.false_or] at hs
    simp only [Bool.and_eq_true, decide_eq_true_eq] at hs
    have hu : ((u8 x).toNat : Int) = x := u8_toNat (by omega) (by omega)
    have hv : visB (u8 x) = true := by
      unfold visB
      rw [Bool.and_eq_true, decide_eq_true_eq, decide_eq_true_eq]
      constructor
      · show (33 : UInt8).toNat ≤ (u8 x).toNat
        have : (33 : UInt8).toNat = 33 := rfl
        omega
      · show (u8 x).toNat ≤ (126 : UInt8).toNat
        have : (126 : UInt8).toNat = 126 := rfl
        omega
    obtain ⟨j, hjj⟩ := Option.isSome_iff_exists.1 hsome
    have hji := hj j hjj
    have hlet : isLetter c = true ∧ c ≠ 122 ∧ c ≠ 44 := by
      simp only [List.mem_cons, List.mem_nil_iff, or_false] at hc
      rcases hc with rfl | rfl | rfl | rfl <;> decide
    refine ⟨?_, ?_⟩
    · unfold oneL
      dsimp only
      rw [if_neg (by rw [hlet.1]; simp), if_neg hlet.2.1, hjj]
      show sgnL st j [u8 x] = _
      unfold sgnL
      dsimp only
      rw [if_pos hv, hu, hji]
    · intro b hb
      simp only [List.mem_cons, List.mem_nil_iff, or_false] at hb
      rcases hb with rfl | rfl | rfl
      · exact hlet.2.2
      · decide
      · intro e
        have : ((u8 x).toNat : Int) = 44 := by rw [e]; rfl
        omega
  rcases hcases with rfl | rfl | rfl | rfl | rfl | ⟨h4, h20⟩
  · have hh : signOk 0 x = true := h
    have h0 : x ≠ 0 := fun e => by subst e; revert hh; decide
    exact hsign 97 (by simp) hh h0 (by decide) (by decide)
  · have hh : signOk 1 x = true := h
    have h0 : x ≠ 0 := fun e => by subst e; revert hh; decide
    exact hsign 116 (by simp) hh h0 (by decide) (by decide)
  · have hh : signOk 2 x = true := h
    exact hsign 111 (by simp) hh hd (by decide) (by decide)
  · have hh : signOk 3 x = true := h
    have h0 : x ≠ 0 := fun e => by subst e; revert hh; decide
    exact hsign 100 (by simp) hh h0 (by decide) (by decide)
  · have hh : near x = true := h
    refine ⟨?_, ?_⟩
    · show oneL st (122 :: 61 :: Lib.itoa x) = _
      unfold oneL
      dsimp only
      rw [if_neg (by decide), if_pos rfl, depthL_itoa hh]
      rfl
    · intro b hb
      have hb : b ∈ (122 : UInt8) :: 61 :: Lib.itoa x := hb
      rcases List.mem_cons.1 hb with rfl | hb
      · decide
      rcases List.mem_cons.1 hb with rfl | hb
      · decide
      · exact itoa_mem x b hb
  · unfold fieldOk at h
    rw [if_neg (by omega), if_neg h20] at h
    simp only [Bool.and_eq_true, decide_eq_true_eq] at h
    obtain ⟨c, hc⟩ : ∃ c, chs.getD i 0 = c := ⟨_, rfl⟩
    have hfacts : isLetter c = true ∧ c ≠ 122 ∧ c ≠ 44 ∧ signIx c = none ∧ numIx c = some i := by
      have : i = 4 ∨ i = 5 ∨ i = 6 ∨ i = 7 ∨ i = 8 ∨ i = 9 ∨ i = 10 ∨ i = 11 ∨ i = 12 ∨ i = 13 ∨ i = 14 ∨ i = 15 ∨ i = 16 ∨ i = 17 ∨ i = 18 ∨ i = 19 ∨ i = 21 := by omega
      rw [← hc]
      rcases this with rfl | rfl | rfl | rfl | rfl | rfl | rfl | rfl | rfl | rfl | rfl | rfl | rfl | rfl | rfl | rfl | rfl <;> decide
    have e : mkI i x = c :: 61 :: Lib.decDigits x.toNat := by
      unfold mkI Lib.itoa
      rw [if_neg (by omega), if_neg (by omega), hc]
    rw [e]
    refine ⟨?_, ?_⟩
    · unfold oneL
      dsimp only
      rw [if_neg (by rw [hfacts.1]; simp), if_neg hfacts.2.1, hfacts.2.2.2.1]
      dsimp only
      rw [hfacts.2.2.2.2]
      dsimp only
      rw [readN_dec (by omega)]
      show some (st.set i ((x.toNat : Nat) : Int)) = _
      rw [show ((x.toNat : Nat) : Int) = x by omega]
    · intro b hb
      rcases List.mem_cons.1 hb with rfl | hb
      · exact hfacts.2.2.1
      rcases List.mem_cons.1 hb with rfl | hb
      · decide
      · exact (dec_mem _ b hb).1
theorem may_at {k : List Int} (h : mayL k = true) {i : Nat} (hi : i < 22) : fieldOk i (k[i]?.getD 0) = true := List.all_eq_true.1 h i (List.mem_range.2 hi)
theorem fold_items {k : List Int} (hl : k.length = 22) (h : mayL k = true) : ∀ m, m ≤ 22 → ((List.range m).flatMap (itemI k)).foldlM oneL firstL = some (mix k firstL m)
  | 0, _ => by rw [mix_zero]; rfl
  | m + 1, hm => by
    have hlen : k.length = firstL.length := by rw [hl]; rfl
    have hm2 : m < firstL.length := by show m < 22; omega
    rw [List.range_succ, List.flatMap_append, List.foldlM_append, fold_items hl h m (by omega)]
    show (List.flatMap (itemI k) [m]).foldlM oneL _ = _
    rw [List.flatMap_singleton]
    unfold itemI
    split
    · rename_i e
      have he : k[m]? = firstL[m]? := by
        have h1 : k[m]? = some (k[m]'(by omega)) := List.getElem?_eq_getElem _
        have h2 : firstL[m]? = some (firstL[m]'hm2) := List.getElem?_eq_getElem _
        rw [h1, h2] at e ⊢
        simpa using e
      rw [← mix_same hlen hm2 he]
      rfl
    · rename_i e
      show (oneL _ _ >>= _) = _
      rw [(one_mk (by omega) (may_at h (by omega)) e _).1]
      show some _ = _
      rw [mix_set hlen hm2 (by rw [List.getElem?_eq_getElem (by omega)]; rfl)]
theorem items_mem {k : List Int} (h : mayL k = true) : ∀ x ∈ itemsL k, ∀ b ∈ x, b ≠ 44 := by
  intro x hx
  obtain ⟨i, hi, hx⟩ := List.mem_flatMap.1 hx
  have hi := List.mem_range.1 hi
  unfold itemI at hx
  split at hx
  · cases hx
  · rename_i e
    rw [List.mem_singleton] at hx
    subst hx
    exact (one_mk hi (may_at h hi) e firstL).2
theorem items_nil {k : List Int} (hl : k.length = 22) (h : itemsL k = []) : k = firstL := by
  refine List.ext_getElem? fun i => ?_
  by_cases hi : i < 22
  · have := List.flatMap_eq_nil_iff.1 h i (List.mem_range.2 hi)
    unfold itemI at this
    split at this
    · rename_i e
      have h1 : k[i]? = some (k[i]'(by omega)) := List.getElem?_eq_getElem _
      have h2 : firstL[i]? = some (firstL[i]'(show i < 22 from hi)) := List.getElem?_eq_getElem _
      rw [h1, h2] at e ⊢
      simpa using e
    · cases this
  · rw [List.getElem?_eq_none (by omega), List.getElem?_eq_none (show firstL.length ≤ i by show 22 ≤ i; omega)]
theorem mk_ne (i : Nat) (x : Int) : mkI i x ≠ [] := by unfold mkI; split <;> simp
theorem text_back {k : List Int} (hl : k.length = 22) (h : mayL k = true) : parseL (textL k) = if 512 < (textL k).length then (zeroL, 5) else (k, 0) := by
  unfold parseL
  split
  · rfl
  · unfold textL
    rw [if_pos h]
    by_cases hn : itemsL k = []
    · rw [hn, joinC_nil, if_pos rfl, items_nil hl hn]
    · rw [splitC_join _ hn (items_mem h)]
      have hne : joinC (itemsL k) ≠ [] := by
        cases hc : itemsL k with
        | nil => exact absurd hc hn
        | cons x l =>
          have hx : x ≠ [] := by
            have hm : x ∈ itemsL k := by rw [hc]; simp
            obtain ⟨i, hi, hx⟩ := List.mem_flatMap.1 hm
            unfold itemI at hx
            split at hx
            · cases hx
            · rw [List.mem_singleton] at hx; subst hx; exact mk_ne _ _
          cases l with
          | nil => rw [joinC_one]; exact hx
          | cons y l => rw [joinC_cons x (y :: l) (by simp)]; simp
      rw [if_neg hne]
      have := fold_items hl h 22 (Nat.le_refl _)
      unfold itemsL
      rw [this]
      have e : mix k firstL 22 = k := mix_all (xs := firstL) (by rw [hl]; rfl)
      rw [e]
/-! ### Replies -/
def replyNo (k : List Int) (word : List UInt8) : Bool :=
  (decide (k[8]?.getD 0 = 0) && decide (k[9]?.getD 0 = 0)) || (decide (k[4]?.getD 0 = 1) && decide (word = [79, 75])) || decide ((2 : Int) ≤ k[4]?.getD 0) || decide (k[8]?.getD 0 < 0) || decide (k[9]?.getD 0 < 0) || decide (k[10]?.getD 0 < 0)
def rItem (c : UInt8) (n : Int) : List (List UInt8) := if n = 0 then [] else [c :: 61 :: Lib.itoa n]
def rItems (k : List Int) : List (List UInt8) := rItem 105 (k[8]?.getD 0) ++ rItem 73 (k[9]?.getD 0) ++ rItem 112 (k[10]?.getD 0)
def replyL (k : List Int) (word : List UInt8) : List UInt8 := if replyNo k word then [] else [27, 95, 71] ++ joinC (rItems k) ++ [59] ++ word ++ [27, 92]
end Go.Proofs.YtpadlibcalomnaaDoor
