/- Tab stops, plain: which columns are stops, as a list of truth values; the answers as numbers. No program in sight. -/
import Derived.Test.YtpadlibcalomnaaMapO
set_option linter.unusedVariables false
namespace Go.Proofs.Ytpadlibcalomnaa
open Go.Vc Go.RowKit

def keysF : Int → List Bool → List (Int × Unit)
  | _, [] => []
  | i, b :: r => if b then (i, ()) :: keysF (i + 1) r else keysF (i + 1) r
/-- The stops as the program's map holds them. -/
def keysB (B : List Bool) : List (Int × Unit) := keysF 0 B
theorem mem_keysF : ∀ {B : List Bool} {i a : Int} {u : Unit}, (a, u) ∈ keysF i B ↔ ∃ j : Nat, a = i + j ∧ B[j]? = some true
  | [], i, a, u => by simp [keysF]
  | b :: r, i, a, u => by
    have ih := mem_keysF (B := r) (i := i + 1) (a := a) (u := u)
    have key : (∃ j : Nat, a = i + 1 + j ∧ r[j]? = some true) ↔ ∃ j : Nat, a = i + ((j + 1 : Nat) : Int) ∧ (b :: r)[j + 1]? = some true := by
      simp only [List.getElem?_cons_succ]
      constructor
      · rintro ⟨j, h, h'⟩; exact ⟨j, by omega, h'⟩
      · rintro ⟨j, h, h'⟩; exact ⟨j, by omega, h'⟩
    rw [keysF]
    cases b with
    | true =>
      rw [if_pos rfl, List.mem_cons, ih, key]
      constructor
      · rintro (h | ⟨j, h, h'⟩)
        · exact ⟨0, by cases h; simp, rfl⟩
        · exact ⟨j + 1, h, h'⟩
      · rintro ⟨j, h, h'⟩
        cases j with
        | zero => exact .inl (by rw [h]; simp)
        | succ j => exact .inr ⟨j, h, h'⟩
    | false =>
      rw [if_neg (by simp), ih, key]
      constructor
      · rintro ⟨j, h, h'⟩; exact ⟨j + 1, h, h'⟩
      · rintro ⟨j, h, h'⟩
        cases j with
        | zero => simp at h'
        | succ j => exact ⟨j, h, h'⟩
theorem srt_keysF : ∀ (B : List Bool) (i : Int), Srt (keysF i B)
  | [], i => .nil
  | b :: r, i => by
    rw [keysF]
    cases b with
    | true =>
      rw [if_pos rfl]
      refine List.pairwise_cons.2 ⟨fun p hp => ?_, srt_keysF r (i + 1)⟩
      obtain ⟨a, u⟩ := p
      obtain ⟨j, h, _⟩ := mem_keysF.1 hp
      show i < a
      omega
    | false => rw [if_neg (by simp)]; exact srt_keysF r (i + 1)
theorem mem_keysB {B : List Bool} {a : Int} {u : Unit} : (a, u) ∈ keysB B ↔ ∃ j : Nat, a = j ∧ B[j]? = some true := by
  unfold keysB
  rw [mem_keysF]
  simp
theorem srt_keysB (B : List Bool) : Srt (keysB B) := srt_keysF B 0
theorem srt_ext {L M : List (Int × Unit)} (h : Srt L) (h' : Srt M) (hm : ∀ a, (a, ()) ∈ L ↔ (a, ()) ∈ M) : L = M := by
  have hp : L.Perm M := (List.perm_ext_iff_of_nodup h.nodup h'.nodup).2 fun p => by obtain ⟨a, u⟩ := p; exact hm a
  refine hp.eq_of_pairwise (le := fun p q : Int × Unit => p.1 ≤ q.1) (fun a b _ _ h1 h2 => ?_) (h.imp fun h => Int.le_of_lt h) (h'.imp fun h => Int.le_of_lt h)
  obtain ⟨a, u⟩ := a
  obtain ⟨b, v⟩ := b
  have : a = b := Int.le_antisymm h1 h2
  subst this
  rfl
def isStop (B : List Bool) (k : Int) : Bool := decide (0 ≤ k) && ((B[k.toNat]?).getD false)
theorem isStop_iff {B : List Bool} {k : Int} : isStop B k = true ↔ ∃ j : Nat, k = j ∧ B[j]? = some true := by
  unfold isStop
  rw [Bool.and_eq_true, decide_eq_true_eq]
  constructor
  · rintro ⟨h0, h⟩
    refine ⟨k.toNat, by omega, ?_⟩
    cases hb : B[k.toNat]? with
    | none => rw [hb] at h; cases h
    | some b => rw [hb] at h; exact congrArg some h
  · rintro ⟨j, rfl, h⟩
    refine ⟨by omega, ?_⟩
    rw [show ((j : Int)).toNat = j by omega, h]
    rfl
theorem look_keys (B : List Bool) (k : Int) : (lookL (keysB B) k).isSome = isStop B k := by
  cases hl : lookL (keysB B) k with
  | some u =>
    have := mem_keysB.1 ((lookL_some (srt_keysB B)).1 hl)
    rw [isStop_iff.2 this]
    rfl
  | none =>
    cases hs : isStop B k with
    | false => rfl
    | true =>
      have := (lookL_some (srt_keysB B)).2 (mem_keysB.2 (isStop_iff.1 hs) : (k, ()) ∈ _)
      rw [this] at hl
      cases hl
theorem put_keys {B : List Bool} {k : Nat} (hk : k < B.length) : putL' (keysB B) (k : Int) () = keysB (B.set k true) := by
  refine srt_ext (srt_putL (srt_keysB B) _ _) (srt_keysB _) fun a => ?_
  rw [mem_putL (srt_keysB B), mem_keysB, mem_keysB]
  constructor
  · rintro (⟨rfl, _⟩ | ⟨hne, j, rfl, h⟩)
    · exact ⟨k, rfl, by simp [hk]⟩
    · exact ⟨j, rfl, by rw [List.getElem?_set_ne (fun e => hne (by rw [e]))]; exact h⟩
  · rintro ⟨j, rfl, h⟩
    by_cases e : k = j
    · exact .inl ⟨by rw [e], rfl⟩
    · rw [List.getElem?_set_ne e] at h
      exact .inr ⟨by omega, j, rfl, h⟩
theorem del_keys {B : List Bool} {k : Nat} : delL (keysB B) (k : Int) = keysB (B.set k false) := by
  refine srt_ext (srt_delL (srt_keysB B) _) (srt_keysB _) fun a => ?_
  rw [mem_delL, mem_keysB, mem_keysB]
  constructor
  · rintro ⟨hne, j, rfl, h⟩
    exact ⟨j, rfl, by rw [List.getElem?_set_ne (fun e => hne (by rw [e]))]; exact h⟩
  · rintro ⟨j, rfl, h⟩
    by_cases e : k = j
    · subst e
      rw [List.getElem?_set] at h
      split at h
      · split at h
        · cases h
        · cases h
      · rename_i hh; exact absurd rfl hh
    · rw [List.getElem?_set_ne e] at h
      exact ⟨by omega, j, rfl, h⟩
theorem del_none {B : List Bool} {k : Int} (h : isStop B k = false) : delL (keysB B) k = keysB B := by
  refine srt_ext (srt_delL (srt_keysB B) _) (srt_keysB _) fun a => ?_
  rw [mem_delL]
  constructor
  · rintro ⟨_, h⟩; exact h
  · intro h'
    refine ⟨fun e => ?_, h'⟩
    subst e
    rw [isStop_iff.2 (mem_keysB.1 h')] at h
    cases h
/-- What a new column is. -/
def dflt (j : Nat) : Bool := decide (0 < j) && decide (j % 8 = 0)
/-- n columns of B's, new ones behind. -/
def resz (B : List Bool) (n : Nat) : List Bool := (List.range n).map fun j => (B[j]?).getD (dflt j)
@[simp] theorem resz_length (B : List Bool) (n : Nat) : (resz B n).length = n := by simp [resz]
theorem resz_get {B : List Bool} {n j : Nat} : (resz B n)[j]? = if j < n then some ((B[j]?).getD (dflt j)) else none := by
  unfold resz
  rw [List.getElem?_map]
  by_cases h : j < n
  · rw [if_pos h, List.getElem?_range h]; rfl
  · rw [if_neg h, List.getElem?_eq_none (by simpa using h)]; rfl
theorem resz_self (B : List Bool) : resz B B.length = B := by
  refine List.ext_getElem? fun j => ?_
  rw [resz_get]
  split
  · rename_i h; rw [List.getElem?_eq_getElem h]; rfl
  · rename_i h; rw [List.getElem?_eq_none (by omega)]
theorem mem_resz {B : List Bool} {n : Nat} {a : Int} {u : Unit} : (a, u) ∈ keysB (resz B n) ↔ ∃ j : Nat, a = j ∧ j < n ∧ (B[j]?).getD (dflt j) = true := by
  rw [mem_keysB]
  constructor
  · rintro ⟨j, h, h'⟩
    rw [resz_get] at h'
    split at h'
    · rename_i hj; exact ⟨j, h, hj, by simpa using h'⟩
    · cases h'
  · rintro ⟨j, h, hj, h'⟩
    exact ⟨j, h, by rw [resz_get, if_pos hj, h']⟩
theorem resz_one {B : List Bool} (h : B.length ≤ 1) : keysB (resz B 1) = keysB B := by
  refine srt_ext (srt_keysB _) (srt_keysB _) fun a => ?_
  rw [mem_resz, mem_keysB]
  constructor
  · rintro ⟨j, rfl, hj, h'⟩
    obtain rfl : j = 0 := by omega
    refine ⟨0, rfl, ?_⟩
    cases hb : B[0]? with
    | none => rw [hb] at h'; cases h'
    | some b => rw [hb] at h'; exact congrArg some h'
  · rintro ⟨j, rfl, h'⟩
    have : j < B.length := (List.getElem?_eq_some_iff.1 h').1
    exact ⟨j, rfl, by omega, by rw [h']; rfl⟩
theorem resz_step {B : List Bool} {n : Nat} (h : B.length ≤ n) : (dflt n = true → putL' (keysB (resz B n)) (n : Int) () = keysB (resz B (n + 1))) ∧ (dflt n = false → keysB (resz B n) = keysB (resz B (n + 1))) := by
  have hn : B[n]? = none := List.getElem?_eq_none h
  constructor
  · intro hd
    refine srt_ext (srt_putL (srt_keysB _) _ _) (srt_keysB _) fun a => ?_
    rw [mem_putL (srt_keysB _), mem_resz, mem_resz]
    constructor
    · rintro (⟨rfl, _⟩ | ⟨hne, j, rfl, hj, h'⟩)
      · exact ⟨n, rfl, by omega, by rw [hn]; exact hd⟩
      · exact ⟨j, rfl, by omega, h'⟩
    · rintro ⟨j, rfl, hj, h'⟩
      by_cases e : j = n
      · exact .inl ⟨by rw [e], rfl⟩
      · exact .inr ⟨by omega, j, rfl, by omega, h'⟩
  · intro hd
    refine srt_ext (srt_keysB _) (srt_keysB _) fun a => ?_
    rw [mem_resz, mem_resz]
    constructor
    · rintro ⟨j, rfl, hj, h'⟩; exact ⟨j, rfl, by omega, h'⟩
    · rintro ⟨j, rfl, hj, h'⟩
      refine ⟨j, rfl, ?_, h'⟩
      have : j ≠ n := fun e => by subst e; rw [hn] at h'; rw [show (none : Option Bool).getD (dflt j) = dflt j from rfl, hd] at h'; cases h'
      omega
theorem resz_cut {B : List Bool} {n m : Nat} (h : n ≤ m) : (keysB (resz B m)).filter (fun p => decide (p.1 < (n : Int))) = keysB (resz B n) := by
  refine srt_ext ((srt_keysB _).filter _) (srt_keysB _) fun a => ?_
  rw [List.mem_filter, mem_resz, mem_resz]
  constructor
  · rintro ⟨⟨j, rfl, hj, h'⟩, hlt⟩
    have := of_decide_eq_true hlt
    exact ⟨j, rfl, by simp at this; omega, h'⟩
  · rintro ⟨j, rfl, hj, h'⟩
    exact ⟨⟨j, rfl, by omega, h'⟩, by simp; omega⟩
/-! ### The answers -/
def keysI (B : List Bool) : List Int := (keysB B).map (·.1)
def nearB (B : List Bool) (col : Int) : Int := min (max col 0) ((B.length : Int) - 1)
def inB (B : List Bool) (col : Int) : Bool := decide (0 ≤ col) && decide (col < B.length)
/-- The n-th behind a column, among these columns; else d. -/
def nth (ks : List Int) (n d : Int) : Int := (ks[(n - 1).toNat]?).getD d
def nextB (B : List Bool) (col n : Int) : Int := if n < 1 ∨ inB B col = false then nearB B col else nth ((keysI B).filter fun k => decide (col < k)) n ((B.length : Int) - 1)
def backB (B : List Bool) (col n : Int) : Int := if n < 1 ∨ inB B col = false then nearB B col else nth ((keysI B).reverse.filter fun k => decide (k < col)) n 0
/-- The program's way: one after the other. -/
def scan (p : Int → Bool) (d : Int) : List Int → Int → Int
  | [], _ => d
  | k :: r, n => if p k then (if n = 1 then k else scan p d r (n - 1)) else scan p d r n
theorem scan_nth (p : Int → Bool) (d : Int) : ∀ (ks : List Int) (n : Int), 1 ≤ n → scan p d ks n = nth (ks.filter p) n d
  | [], n, h => by simp [scan, nth]
  | k :: r, n, h => by
    rw [scan, List.filter_cons]
    split
    · split
      · rename_i e; subst e; simp [nth]
      · rename_i e
        rw [scan_nth p d r (n - 1) (by omega)]
        unfold nth
        rw [show (n - 1).toNat = (n - 1 - 1).toNat + 1 by omega, List.getElem?_cons_succ]
    · exact scan_nth p d r n h
/-! ### One behind the other is n at once -/
theorem srt_keysI (B : List Bool) : (keysI B).Pairwise fun a b => a < b := List.pairwise_map.2 (srt_keysB B)
theorem mem_keysI {B : List Bool} {a : Int} (h : a ∈ keysI B) : 0 ≤ a ∧ a < B.length := by
  obtain ⟨⟨x, u⟩, hp, rfl⟩ := List.mem_map.1 h
  obtain ⟨j, h1, h2⟩ := mem_keysB.1 hp
  have := (List.getElem?_eq_some_iff.1 h2).1
  simp at h1 ⊢
  omega
theorem filter_gt {ks : List Int} (h : ks.Pairwise fun a b => a < b) (c : Int) (i : Nat) {k : Int} (hi : (ks.filter fun x => decide (c < x))[i]? = some k) :
    (ks.filter fun x => decide (k < x)) = (ks.filter fun x => decide (c < x)).drop (i + 1) := by
  induction ks generalizing i with
  | nil => simp at hi
  | cons a r ih =>
    have hp := List.pairwise_cons.1 h
    rw [List.filter_cons] at hi
    by_cases hc : c < a
    · simp only [decide_eq_true hc, if_true] at hi
      cases i with
      | zero =>
        simp only [List.getElem?_cons_zero, Option.some.injEq] at hi
        subst hi
        rw [List.filter_cons, List.filter_cons]
        simp only [decide_eq_true hc, if_true, List.drop_succ_cons, List.drop_zero, Int.lt_irrefl, decide_false, Bool.false_eq_true, if_false]
        rw [List.filter_eq_self.2 fun x hx => by simpa using hp.1 x hx, List.filter_eq_self.2 fun x hx => by have := hp.1 x hx; simp; omega]
      | succ i =>
        simp only [List.getElem?_cons_succ] at hi
        have hk : k ∈ r := (List.mem_filter.1 (List.mem_of_getElem? hi)).1
        have := hp.1 k hk
        rw [List.filter_cons, List.filter_cons]
        rw [if_neg (by simp; omega)]
        simp only [decide_eq_true hc, if_true, List.drop_succ_cons]
        exact ih hp.2 i hi
    · simp only [hc, decide_false, Bool.false_eq_true, if_false] at hi
      have hk := (List.mem_filter.1 (List.mem_of_getElem? hi))
      have h1 := hp.1 k hk.1
      rw [List.filter_cons, List.filter_cons, if_neg (by simp; omega), if_neg (by simpa using hc)]
      exact ih hp.2 i hi
theorem filter_lt {ks : List Int} (h : ks.Pairwise fun a b => b < a) (c : Int) (i : Nat) {k : Int} (hi : (ks.filter fun x => decide (x < c))[i]? = some k) :
    (ks.filter fun x => decide (x < k)) = (ks.filter fun x => decide (x < c)).drop (i + 1) := by
  induction ks generalizing i with
  | nil => simp at hi
  | cons a r ih =>
    have hp := List.pairwise_cons.1 h
    rw [List.filter_cons] at hi
    by_cases hc : a < c
    · simp only [decide_eq_true hc, if_true] at hi
      cases i with
      | zero =>
        simp only [List.getElem?_cons_zero, Option.some.injEq] at hi
        subst hi
        rw [List.filter_cons, List.filter_cons]
        simp only [decide_eq_true hc, if_true, List.drop_succ_cons, List.drop_zero, Int.lt_irrefl, decide_false, Bool.false_eq_true, if_false]
        rw [List.filter_eq_self.2 fun x hx => by simpa using hp.1 x hx, List.filter_eq_self.2 fun x hx => by have := hp.1 x hx; simp; omega]
      | succ i =>
        simp only [List.getElem?_cons_succ] at hi
        have hk : k ∈ r := (List.mem_filter.1 (List.mem_of_getElem? hi)).1
        have := hp.1 k hk
        rw [List.filter_cons, List.filter_cons]
        rw [if_neg (by simp; omega)]
        simp only [decide_eq_true hc, if_true, List.drop_succ_cons]
        exact ih hp.2 i hi
    · simp only [hc, decide_false, Bool.false_eq_true, if_false] at hi
      have hk := (List.mem_filter.1 (List.mem_of_getElem? hi))
      have h1 := hp.1 k hk.1
      rw [List.filter_cons, List.filter_cons, if_neg (by simp; omega), if_neg (by simpa using hc)]
      exact ih hp.2 i hi
theorem ncond {B : List Bool} {c n : Int} (h : 1 ≤ n) (h' : inB B c = true) : ¬(n < 1 ∨ inB B c = false) := fun hh => hh.elim (fun e => by omega) fun e => by rw [h'] at e; cases e
theorem next_eq {B : List Bool} {c n : Int} (h : 1 ≤ n) (h' : inB B c = true) : nextB B c n = nth ((keysI B).filter fun k => decide (c < k)) n ((B.length : Int) - 1) := if_neg (ncond h h')
theorem back_eq {B : List Bool} {c n : Int} (h : 1 ≤ n) (h' : inB B c = true) : backB B c n = nth ((keysI B).reverse.filter fun k => decide (k < c)) n 0 := if_neg (ncond h h')
def iter (f : Int → Int) : Nat → Int → Int
  | 0, x => x
  | n + 1, x => f (iter f n x)
theorem near_in {B : List Bool} {c : Int} (h : inB B c = true) : nearB B c = c := by
  unfold inB at h
  simp at h
  unfold nearB
  omega
theorem nth_in {B : List Bool} {ks : List Int} (hk : ∀ k ∈ ks, k ∈ keysI B) {n d : Int} (hd : inB B d = true) : inB B (nth ks n d) = true := by
  unfold nth
  cases h : ks[(n - 1).toNat]? with
  | none => exact hd
  | some k =>
    have := mem_keysI (hk k (List.mem_of_getElem? h))
    unfold inB
    simp
    exact this
theorem next_in {B : List Bool} {c : Int} (h : inB B c = true) (n : Int) : inB B (nextB B c n) = true := by
  unfold nextB
  split
  · rw [near_in h]; exact h
  · refine nth_in (fun k hk => (List.mem_filter.1 hk).1) ?_
    unfold inB at h ⊢
    simp at h ⊢
    omega
theorem back_in {B : List Bool} {c : Int} (h : inB B c = true) (n : Int) : inB B (backB B c n) = true := by
  unfold backB
  split
  · rw [near_in h]; exact h
  · refine nth_in (fun k hk => List.mem_reverse.1 (List.mem_filter.1 hk).1) ?_
    unfold inB at h ⊢
    simp at h ⊢
    omega
theorem next_iter {B : List Bool} {c : Int} (h : inB B c = true) : ∀ n : Nat, iter (fun x => nextB B x 1) n c = nextB B c n
  | 0 => by
    show c = _
    unfold nextB
    rw [if_pos (.inl (by omega)), near_in h]
  | n + 1 => by
    show nextB B (iter _ n c) 1 = _
    rw [next_iter h n]
    have hin := next_in h (n : Int)
    have e1 : nextB B (nextB B c n) 1 = nth ((keysI B).filter fun k => decide (nextB B c n < k)) 1 ((B.length : Int) - 1) := next_eq (by omega) hin
    have e2 : ∀ m : Nat, nextB B c ((m + 1 : Nat) : Int) = (((keysI B).filter fun k => decide (c < k))[m]?).getD ((B.length : Int) - 1) := fun m => by
      rw [next_eq (by omega) h]
      unfold nth
      rw [show (((m + 1 : Nat) : Int) - 1).toNat = m by omega]
    rw [e1, e2 n]
    unfold nth
    rw [show ((1 : Int) - 1).toNat = 0 by omega]
    cases n with
    | zero =>
      have : nextB B c ((0 : Nat) : Int) = c := by unfold nextB; rw [if_pos (.inl (by omega)), near_in h]
      rw [this]
    | succ n =>
      rw [e2 n]
      cases hk : ((keysI B).filter fun k => decide (c < k))[n]? with
      | some k =>
        show (((keysI B).filter fun x => decide (k < x))[0]?).getD _ = _
        rw [filter_gt (srt_keysI B) c n hk, List.getElem?_drop, Nat.add_zero]
      | none =>
        have h1 : ((keysI B).filter fun x => decide (c < x))[n + 1]? = none := by
          rw [List.getElem?_eq_none_iff] at hk ⊢
          omega
        rw [h1]
        show (((keysI B).filter fun x => decide ((B.length : Int) - 1 < x))[0]?).getD _ = _
        rw [List.filter_eq_nil_iff.2 fun x hx => by have := mem_keysI hx; simp; omega]
        rfl
theorem back_iter {B : List Bool} {c : Int} (h : inB B c = true) : ∀ n : Nat, iter (fun x => backB B x 1) n c = backB B c n
  | 0 => by
    show c = _
    unfold backB
    rw [if_pos (.inl (by omega)), near_in h]
  | n + 1 => by
    show backB B (iter _ n c) 1 = _
    rw [back_iter h n]
    have hin := back_in h (n : Int)
    have e1 : backB B (backB B c n) 1 = nth ((keysI B).reverse.filter fun k => decide (k < backB B c n)) 1 0 := back_eq (by omega) hin
    have e2 : ∀ m : Nat, backB B c ((m + 1 : Nat) : Int) = (((keysI B).reverse.filter fun k => decide (k < c))[m]?).getD 0 := fun m => by
      rw [back_eq (by omega) h]
      unfold nth
      rw [show (((m + 1 : Nat) : Int) - 1).toNat = m by omega]
    rw [e1, e2 n]
    unfold nth
    rw [show ((1 : Int) - 1).toNat = 0 by omega]
    cases n with
    | zero =>
      have : backB B c ((0 : Nat) : Int) = c := by unfold backB; rw [if_pos (.inl (by omega)), near_in h]
      rw [this]
    | succ n =>
      rw [e2 n]
      cases hk : ((keysI B).reverse.filter fun k => decide (k < c))[n]? with
      | some k =>
        show (((keysI B).reverse.filter fun x => decide (x < k))[0]?).getD _ = _
        rw [filter_lt (List.pairwise_reverse.2 (srt_keysI B)) c n hk, List.getElem?_drop, Nat.add_zero]
      | none =>
        have h1 : ((keysI B).reverse.filter fun x => decide (x < c))[n + 1]? = none := by
          rw [List.getElem?_eq_none_iff] at hk ⊢
          omega
        rw [h1]
        show (((keysI B).reverse.filter fun x => decide (x < (0 : Int)))[0]?).getD _ = _
        rw [List.filter_eq_nil_iff.2 fun x hx => by have := mem_keysI (List.mem_reverse.1 hx); simp; omega]
        rfl
end Go.Proofs.Ytpadlibcalomnaa
