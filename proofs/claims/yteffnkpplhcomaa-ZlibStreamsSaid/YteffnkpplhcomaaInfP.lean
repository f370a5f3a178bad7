/- A deflate stream as a plain machine over bytes and a place in bits; the window; the fixed codes. No program in sight. -/
import Derived.Test.YteffnkpplhcomaaHuffP
namespace Go.Vc

structure Cfg where
  mode : Nat
  last : Bool
  left : Nat
  sg : List UInt8
  ds : List UInt8
  hist : List UInt8
inductive SR where
  | next (c : Cfg) (at_ : Nat)
  | short
  | err (e : Nat)

def fixedL : List UInt8 := List.replicate 144 8 ++ List.replicate 112 9 ++ List.replicate 24 7 ++ List.replicate 8 8
def fiveL : List UInt8 := List.replicate 32 5
def orderL : List Nat := [16, 17, 18, 0, 8, 7, 9, 6, 10, 5, 11, 4, 12, 3, 13, 2, 14, 1, 15]
def up8 (n : Nat) : Nat := (n + 7) / 8 * 8
/-- Behind a block. -/
def Cfg.behind (c : Cfg) : Cfg := { c with mode := if c.last then 5 else 0 }
def lenBase (s : Nat) : Nat × Nat := if s = 285 then (258, 0) else if s - 257 < 8 then (3 + (s - 257), 0) else (3 + (4 + (s - 257) % 4) * 2 ^ ((s - 257) / 4 - 1), (s - 257) / 4 - 1)
def distBase (s : Nat) : Nat × Nat := if s < 4 then (1 + s, 0) else (1 + (2 + s % 2) * 2 ^ (s / 2 - 1), s / 2 - 1)
def copyN (most far : Nat) : Nat → List UInt8 → Option (List UInt8)
  | 0, h => some h
  | n + 1, h => if most ≤ h.length then none else copyN most far n (h ++ [h.getD (h.length - far) 0])

def stepHead (bs : List UInt8) (at_ : Nat) (c : Cfg) : SR :=
  if 8 * bs.length < at_ + 3 then .short
  else
    let v := peekN bs at_ 3
    let c := { c with last := v % 2 == 1 }
    if v / 2 = 0 then .next { c with mode := 1 } (at_ + 3)
    else if v / 2 = 1 then .next { c with mode := 4, sg := fixedL, ds := fiveL } (at_ + 3)
    else if v / 2 = 2 then .next { c with mode := 3 } (at_ + 3)
    else .err 3
def stepStored (bs : List UInt8) (at_ : Nat) (c : Cfg) : SR :=
  if 8 * bs.length < up8 at_ + 32 then .short
  else if peekN bs (up8 at_) 16 ^^^ peekN bs (up8 at_ + 16) 16 ≠ 65535 then .err 3
  else .next { c with mode := 2, left := peekN bs (up8 at_) 16 } (up8 at_ + 32)
def stepByte (most : Nat) (bs : List UInt8) (at_ : Nat) (c : Cfg) : SR :=
  if c.left = 0 then .next c.behind at_
  else if 8 * bs.length < at_ + 8 then .short
  else if most ≤ c.hist.length then .err 5
  else .next { c with left := c.left - 1, hist := c.hist ++ [UInt8.ofNat (peekN bs at_ 8)] } (at_ + 8)
def stepCode (most : Nat) (bs : List UInt8) (at_ : Nat) (c : Cfg) : SR :=
  match readT c.sg bs at_ with
  | .short => .short
  | .form => .err 3
  | .sym y k =>
    if y = 256 then .next c.behind (at_ + k)
    else if 285 < y then .err 3
    else if y < 256 then (if most ≤ c.hist.length then .err 5 else .next { c with hist := c.hist ++ [UInt8.ofNat y] } (at_ + k))
    else
      let (b, n) := lenBase y
      if 8 * bs.length < at_ + k + n then .short
      else
        let m := b + peekN bs (at_ + k) n
        match readT c.ds bs (at_ + k + n) with
        | .short => .short
        | .form => .err 3
        | .sym z j =>
          if 29 < z then .err 3
          else
            let (b2, n2) := distBase z
            if 8 * bs.length < at_ + k + n + j + n2 then .short
            else
              let far := b2 + peekN bs (at_ + k + n + j) n2
              if min c.hist.length 32768 < far then .err 3
              else match copyN most far m c.hist with
                | none => .err 5
                | some h => .next { c with hist := h } (at_ + k + n + j + n2)

/-- Lengths of codes, as a dynamic block says them. -/
inductive LR where
  | lens (l : List UInt8) (at_ : Nat)
  | short
  | form
def lensGo (t bs : List UInt8) (n : Nat) : Nat → Nat → List UInt8 → LR
  | 0, _, _ => .form
  | f + 1, at_, l =>
    if n ≤ l.length then .lens l at_
    else match readT t bs at_ with
      | .short => .short
      | .form => .form
      | .sym y k =>
        if y = 16 ∧ l = [] then .form
        else
          let (b, m, v) : Nat × Nat × UInt8 := if y = 18 then (11, 7, 0) else if y = 17 then (3, 3, 0) else if y = 16 then (3, 2, l.getLastD 0) else (1, 0, UInt8.ofNat y)
          if 8 * bs.length < at_ + k + m then .short
          else if n < l.length + b + peekN bs (at_ + k) m then .form
          else lensGo t bs n f (at_ + k + m) (l ++ List.replicate (b + peekN bs (at_ + k) m) v)
/-- The lengths of the codes of lengths. -/
def clens (bs : List UInt8) (at_ : Nat) : Nat → List UInt8
  | 0 => List.replicate 19 0
  | i + 1 => (clens bs at_ i).set (orderL.getD i 0) (UInt8.ofNat (peekN bs (at_ + 3 * i) 3))
def badTab (ls : List UInt8) : Prop := (ls.length > 320 ∨ ∃ x ∈ ls, 15 < x.toNat) ∨ ¬ (roomN ls = 32768 ∨ roomN ls = 0 ∨ (roomN ls = 16384 ∧ cntK ls 1 = 1))
instance (ls : List UInt8) : Decidable (badTab ls) := by unfold badTab; infer_instance
def stepDyn (bs : List UInt8) (at_ : Nat) (c : Cfg) : SR :=
  if 8 * bs.length < at_ + 14 then .short
  else
    let a := peekN bs at_ 5
    let b := peekN bs (at_ + 5) 5
    let d := peekN bs (at_ + 10) 4
    if 29 < a ∨ 29 < b then .err 3
    else if 8 * bs.length < at_ + 14 + 3 * (d + 4) then .short
    else
      let cl := clens bs (at_ + 14) (d + 4)
      if badTab cl then .err 3
      else match lensGo cl bs (a + 257 + b + 1) 400 (at_ + 14 + 3 * (d + 4)) [] with
        | .short => .short
        | .form => .err 3
        | .lens l at2 =>
          if badTab (l.take (a + 257)) ∨ badTab (l.drop (a + 257)) ∨ (l.getD 256 0) = 0 then .err 3
          else .next { c with mode := 4, sg := l.take (a + 257), ds := l.drop (a + 257) } at2
def stepN (most : Nat) (bs : List UInt8) (at_ : Nat) (c : Cfg) : SR :=
  if c.mode = 0 then stepHead bs at_ c
  else if c.mode = 1 then stepStored bs at_ c
  else if c.mode = 2 then stepByte most bs at_ c
  else if c.mode = 3 then stepDyn bs at_ c
  else stepCode most bs at_ c
/-- One step of the machine. -/
def step1 (most : Nat) (bs : List UInt8) (at_ : Nat) (c : Cfg) : SR := if c.mode = 5 then .short else stepN most bs at_ c

/-! ### The window -/
def ringGo (p : List UInt8 × Nat) (c : UInt8) : List UInt8 × Nat := (if p.1.length < 32768 then p.1 ++ [c] else p.1.set (p.2 % 32768) c, p.2 + 1)
def ringOf (h : List UInt8) : List UInt8 := (h.foldl ringGo ([], 0)).1
theorem ringGo_snd (h : List UInt8) : ∀ p, (h.foldl ringGo p).2 = p.2 + h.length := by
  induction h with
  | nil => intro p; rfl
  | cons x r ih => intro p; rw [List.foldl_cons, ih, List.length_cons]; simp only [ringGo]; omega
theorem ringOf_snoc (h : List UInt8) (c : UInt8) : ringOf (h ++ [c]) = if (ringOf h).length < 32768 then ringOf h ++ [c] else (ringOf h).set (h.length % 32768) c := by
  unfold ringOf
  rw [List.foldl_append]
  have := ringGo_snd h ([], 0)
  simp only [Nat.zero_add] at this
  show (ringGo _ c).1 = _
  simp only [ringGo, this]
theorem list_last {α : Type} (P : List α → Prop) (h0 : P []) (h1 : ∀ l a, P l → P (l ++ [a])) (l : List α) : P l := by
  have : ∀ r : List α, P r.reverse := by
    intro r
    induction r with
    | nil => exact h0
    | cons a r ih => rw [List.reverse_cons]; exact h1 _ _ ih
  have := this l.reverse
  rwa [List.reverse_reverse] at this
theorem ringOf_length (h : List UInt8) : (ringOf h).length = min h.length 32768 := by
  refine list_last (fun h => (ringOf h).length = min h.length 32768) rfl (fun l a ih => ?_) h
  rw [ringOf_snoc, List.length_append, List.length_singleton]
  split
  · rw [List.length_append, List.length_singleton]; omega
  · rw [List.length_set]; omega
theorem ringOf_get (h : List UInt8) : ∀ j, j < h.length → h.length ≤ j + 32768 → (ringOf h)[j % 32768]? = h[j]? := by
  refine list_last (fun h => ∀ j, j < h.length → h.length ≤ j + 32768 → (ringOf h)[j % 32768]? = h[j]?) (fun j hj => by simp at hj) (fun l a ih => ?_) h
  intro j hj hw
  have hl := ringOf_length l
  rw [List.length_append, List.length_singleton] at hj hw
  rw [ringOf_snoc]
  by_cases hjl : j < l.length
  · have ih := ih j hjl (by omega)
    rw [List.getElem?_append_left hjl, ← ih]
    split
    · rw [List.getElem?_append_left]
      have := (List.getElem?_eq_some_iff.1 (ih.trans (List.getElem?_eq_getElem hjl))).1
      exact this
    · rw [List.getElem?_set_ne]
      omega
  · have : j = l.length := by omega
    subst this
    rw [List.getElem?_append_right (Nat.le_refl _), Nat.sub_self]
    split
    · rw [Nat.mod_eq_of_lt (by omega), List.getElem?_append_right (by omega)]
      have : l.length - (ringOf l).length = 0 := by omega
      rw [this]
    · rw [List.getElem?_set_self (by omega)]
      rfl
end Go.Vc
