/- Plain: bytes quoted as a text, and back. -/
import Derived.Test.YtpadlibcalomnaaDoorStrB
set_option linter.unusedVariables false
namespace Go.Proofs.YtpadlibcalomnaaDoor
set_option maxRecDepth 400000

def hexB : List UInt8 := [48, 49, 50, 51, 52, 53, 54, 55, 56, 57, 97, 98, 99, 100, 101, 102]
def fineB (c : UInt8) : Bool := decide (33 ≤ c) && decide (c ≤ 126) && decide (c ≠ 37)
def q1 (c : UInt8) : List UInt8 := if fineB c then [c] else [37, hexB.getD (c.toNat / 16) 0, hexB.getD (c.toNat % 16) 0]
def quoteL (l : List UInt8) : List UInt8 := if l = [] then [37] else l.flatMap q1
def hexV (c : UInt8) : Int := Lib.indexByte hexB c
def hex0 (c : UInt8) : Nat := (hexV c).toNat
def mk (a b : UInt8) : UInt8 := UInt8.ofNat (hex0 a * 16 + hex0 b)
/-- What the program reads. -/
def decF : Nat → List UInt8 → List UInt8
  | 0, _ => []
  | _ + 1, [] => []
  | n + 1, c :: r => if c = 37 then (match r with
    | a :: b :: r' => mk a b :: decF n r'
    | _ => c :: decF n r) else c :: decF n r
theorem decF_ne (n : Nat) {c : UInt8} (r : List UInt8) (h : c ≠ 37) : decF (n + 1) (c :: r) = c :: decF n r := by
  conv => lhs; unfold decF
  exact if_neg h
theorem decF_esc (n : Nat) (a b : UInt8) (r : List UInt8) : decF (n + 1) (37 :: a :: b :: r) = mk a b :: decF n r := by
  conv => lhs; unfold decF
  exact if_pos rfl
theorem decF_sh (n : Nat) (c : UInt8) (r : List UInt8) (h : r.length < 2) : decF (n + 1) (c :: r) = c :: decF n r := by
  rcases r with _ | ⟨a, _ | ⟨b, r⟩⟩
  · conv => lhs; unfold decF
    simp
  · conv => lhs; unfold decF
    simp
  · simp at h
    omega
def decL (s : List UInt8) : List UInt8 := if s = [37] then [] else decF s.length s
/-- What the document reads; none: it is none. -/
def refF : Nat → List UInt8 → Option (List UInt8)
  | 0, _ => some []
  | _ + 1, [] => some []
  | n + 1, c :: r => if c ≠ 37 then (refF n r).map (c :: ·) else match r with
    | a :: b :: r' => if hexV a < 0 ∨ hexV b < 0 then none else (refF n r').map (mk a b :: ·)
    | _ => none
theorem refF_ne (n : Nat) {c : UInt8} (r : List UInt8) (h : c ≠ 37) : refF (n + 1) (c :: r) = (refF n r).map (c :: ·) := by
  conv => lhs; unfold refF
  exact if_pos h
theorem refF_esc (n : Nat) (a b : UInt8) (r : List UInt8) : refF (n + 1) (37 :: a :: b :: r) = if hexV a < 0 ∨ hexV b < 0 then none else (refF n r).map (mk a b :: ·) := by
  conv => lhs; unfold refF
  exact if_neg (by simp)
theorem refF_sh (n : Nat) (r : List UInt8) (h : r.length < 2) : refF (n + 1) (37 :: r) = none := by
  unfold refF
  rw [if_neg (by simp)]
  rcases r with _ | ⟨a, _ | ⟨b, r⟩⟩
  · rfl
  · rfl
  · simp at h
    omega
def unqL (s : List UInt8) : List UInt8 × Int := if quoteL (decL s) = s then (decL s, 0) else ([], 3)
def unqR (s : List UInt8) : List UInt8 × Int := if s = [37] then ([], 0) else match refF s.length s with
  | none => ([], 3)
  | some out => if out = [] ∨ quoteL out ≠ s then ([], 3) else (out, 0)
theorem q1_back : ∀ c : UInt8, fineB c = false → hexV (hexB.getD (c.toNat / 16) 0) = (c.toNat / 16 : Nat) ∧ hexV (hexB.getD (c.toNat % 16) 0) = (c.toNat % 16 : Nat) ∧ mk (hexB.getD (c.toNat / 16) 0) (hexB.getD (c.toNat % 16) 0) = c := by
  intro c
  have h : ∀ n, n < 256 → hexV (hexB.getD (n / 16) 0) = (n / 16 : Nat) ∧ hexV (hexB.getD (n % 16) 0) = (n % 16 : Nat) ∧ mk (hexB.getD (n / 16) 0) (hexB.getD (n % 16) 0) = UInt8.ofNat n := by decide +kernel
  intro _
  have := h c.toNat c.toNat_lt
  simpa using this
theorem fine37 {c : UInt8} (h : fineB c = true) : c ≠ 37 := by
  unfold fineB at h
  simp only [Bool.and_eq_true, decide_eq_true_eq] at h
  exact h.2
theorem dec_quote : ∀ (l : List UInt8) (n : Nat), (l.flatMap q1).length ≤ n → decF n (l.flatMap q1) = l ∧ refF n (l.flatMap q1) = some l
  | [], n, _ => by cases n <;> simp [decF, refF]
  | c :: l, n, h => by
    rw [List.flatMap_cons] at h ⊢
    cases hf : fineB c with
    | true =>
      have e : q1 c = [c] := by unfold q1; rw [if_pos hf]
      have hne := fine37 hf
      rw [e] at h ⊢
      cases n with
      | zero => simp at h
      | succ n =>
        obtain ⟨h1, h2⟩ := dec_quote l n (by simpa using h)
        rw [List.singleton_append]
        constructor
        · rw [decF_ne _ _ hne, h1]
        · rw [refF_ne _ _ hne, h2]
          rfl
    | false =>
      have e : q1 c = [37, hexB.getD (c.toNat / 16) 0, hexB.getD (c.toNat % 16) 0] := by unfold q1; rw [if_neg (by rw [hf]; simp)]
      obtain ⟨e1, e2, e3⟩ := q1_back c hf
      rw [e] at h ⊢
      cases n with
      | zero => simp at h
      | succ n =>
        obtain ⟨h1, h2⟩ := dec_quote l n (by rw [List.length_append] at h; simp only [List.length_cons, List.length_nil] at h; omega)
        simp only [List.cons_append, List.nil_append]
        constructor
        · rw [decF_esc, h1, e3]
        · rw [refF_esc, if_neg (by omega), h2, e3]
          rfl
theorem ref_dec : ∀ (n : Nat) (s o : List UInt8), refF n s = some o → decF n s = o
  | 0, s, o, h => by simpa [refF, decF] using h
  | n + 1, [], o, h => by simpa [refF, decF] using h
  | n + 1, c :: r, o, h => by
    by_cases hc : c = 37
    · subst hc
      rcases r with _ | ⟨a, _ | ⟨b, r'⟩⟩
      · rw [refF_sh _ _ (by simp)] at h; cases h
      · rw [refF_sh _ _ (by simp)] at h; cases h
      · rw [refF_esc] at h
        split at h
        · cases h
        · cases h2 : refF n r' with
          | none => rw [h2] at h; cases h
          | some o' =>
            rw [h2] at h
            rw [decF_esc, ref_dec n r' o' h2]
            exact Option.some.inj h
    · rw [refF_ne _ _ hc] at h
      cases h2 : refF n r with
      | none => rw [h2] at h; cases h
      | some o' =>
        rw [h2] at h
        rw [decF_ne _ _ hc, ref_dec n r o' h2]
        exact Option.some.inj h
theorem q1_len (c : UInt8) : 1 ≤ (q1 c).length ∧ (q1 c).length ≤ 3 := by unfold q1; split <;> simp
theorem quote_ne (l : List UInt8) (h : l ≠ []) : l.flatMap q1 ≠ [] ∧ l.flatMap q1 ≠ [37] := by
  cases l with
  | nil => exact absurd rfl h
  | cons c l =>
    rw [List.flatMap_cons]
    have := q1_len c
    constructor
    · intro e
      have := congrArg List.length e
      rw [List.length_append, List.length_nil] at this
      omega
    · intro e
      cases hf : fineB c with
      | true =>
        have e1 : q1 c = [c] := by unfold q1; rw [if_pos hf]
        rw [e1] at e
        exact fine37 hf (List.cons.inj e).1
      | false =>
        have e1 : q1 c = [37, hexB.getD (c.toNat / 16) 0, hexB.getD (c.toNat % 16) 0] := by unfold q1; rw [if_neg (by rw [hf]; simp)]
        rw [e1] at e
        simp at e
theorem quote_back (l : List UInt8) : unqL (quoteL l) = (l, 0) := by
  have h : decL (quoteL l) = l := by
    unfold decL quoteL
    by_cases e : l = []
    · subst e; rfl
    · rw [if_neg e, if_neg (quote_ne l e).2]
      exact (dec_quote l _ (Nat.le_refl _)).1
  unfold unqL
  rw [h, if_pos rfl]
theorem unq_same (s : List UInt8) : unqL s = unqR s := by
  by_cases h37 : s = [37]
  · subst h37
    decide
  · unfold unqL unqR
    rw [if_neg h37]
    have hd : decL s = decF s.length s := by unfold decL; rw [if_neg h37]
    rw [hd]
    by_cases hq : quoteL (decF s.length s) = s
    · rw [if_pos hq]
      by_cases he : decF s.length s = []
      · rw [he] at hq
        exact absurd hq.symm h37
      · have hs : (decF s.length s).flatMap q1 = s := by
          unfold quoteL at hq
          rwa [if_neg he] at hq
        have := (dec_quote (decF s.length s) s.length (by rw [hs]; exact Nat.le_refl _)).2
        rw [hs] at this
        rw [this]
        dsimp only
        rw [if_neg]
        rintro (h | h)
        · exact he h
        · exact h hq
    · rw [if_neg hq]
      cases hr : refF s.length s with
      | none => rfl
      | some o =>
        have ho := ref_dec _ _ _ hr
        dsimp only
        rw [if_pos]
        right
        rw [← ho]
        exact hq
end Go.Proofs.YtpadlibcalomnaaDoor
