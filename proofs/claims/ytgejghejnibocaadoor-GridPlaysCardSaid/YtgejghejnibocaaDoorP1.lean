/- Plain laws of lines: what is mended is right; writing and then mending the halves is what the reference does. No program in sight. -/
import Derived.Test.YtgejghejnibocaaDoorL5
import Derived.Test.YtgejghejnibocaaDoorT3
namespace Go.Proofs.YtgejghejnibocaaDoor
open Go.Vc Go.RowKit

/-! ### Fitting -/
theorem isB_nat {xs : List Cell} {i : Nat} {k : Int} : isB xs i k = true ↔ ∃ y, xs[i]? = some y ∧ y.Kind = k := by
  unfold isB
  rw [Bool.and_eq_true, Bool.and_eq_true, decide_eq_true_iff, decide_eq_true_iff, beq_iff_eq]
  constructor
  · rintro ⟨⟨_, h⟩, e⟩
    have hl : i < xs.length := by omega
    refine ⟨xs[i], List.getElem?_eq_getElem hl, ?_⟩
    rw [kindAt_get (List.getElem?_eq_getElem hl)] at e
    exact e
  · rintro ⟨y, hy, e⟩
    have := (List.getElem?_eq_some_iff.1 hy).1
    exact ⟨⟨by omega, by omega⟩, by rw [kindAt_get hy, e]⟩
theorem fits_iff {xs : List Cell} {k : Nat} {x : Cell} (hx : xs[k]? = some x) :
    fitsB xs k = true ↔ x.Kind = 0 ∨ (x.Kind = 1 ∧ ∃ y, xs[k + 1]? = some y ∧ y.Kind = 2) ∨ (x.Kind = 2 ∧ 1 ≤ k ∧ ∃ y, xs[k - 1]? = some y ∧ y.Kind = 1) := by
  have hkk := kindAt_get hx
  unfold fitsB
  rw [hkk]
  by_cases h0 : x.Kind = 0
  · rw [if_pos h0]; exact ⟨fun _ => .inl h0, fun _ => rfl⟩
  · rw [if_neg h0]
    by_cases h1 : x.Kind = 1
    · rw [if_pos h1, show (k : Int) + 1 = ((k + 1 : Nat) : Int) by omega, isB_nat]
      constructor
      · exact fun h => .inr (.inl ⟨h1, h⟩)
      · rintro (h | ⟨_, h⟩ | ⟨h, _⟩)
        · exact absurd h h0
        · exact h
        · omega
    · rw [if_neg h1]
      by_cases h2 : x.Kind = 2
      · rw [if_pos h2]
        by_cases hk : 1 ≤ k
        · rw [show (k : Int) - 1 = ((k - 1 : Nat) : Int) by omega, isB_nat]
          constructor
          · exact fun h => .inr (.inr ⟨h2, hk, h⟩)
          · rintro (h | ⟨h, _⟩ | ⟨_, _, h⟩)
            · exact absurd h h0
            · exact absurd h h1
            · exact h
        · have : isB xs ((k : Int) - 1) 1 = false := by
            unfold isB
            rw [decide_eq_false (by omega)]
            rfl
          rw [this]
          constructor
          · intro h; cases h
          · rintro (h | ⟨h, _⟩ | ⟨_, h, _⟩)
            · exact absurd h h0
            · exact absurd h h1
            · exact absurd h hk
      · rw [if_neg h2]
        constructor
        · intro h; cases h
        · rintro (h | ⟨h, _⟩ | ⟨h, _⟩)
          · exact absurd h h0
          · exact absurd h h1
          · exact absurd h h2
theorem right_iff {xs : List Cell} : rightB xs = true ↔ ∀ (k : Nat) x, xs[k]? = some x → fitsB xs k = true ∧ (x.Kind = 2 → x.R = 0) := by
  constructor
  · intro h k x hx
    have hk := (List.getElem?_eq_some_iff.1 hx).1
    have := okB_get hx
    have h1 : okB xs k = true := by
      unfold rightB at h
      rw [List.all_eq_true] at h
      exact h k (List.mem_range.2 hk)
    rw [this, Bool.and_eq_true] at h1
    refine ⟨h1.1, fun e => ?_⟩
    have := h1.2
    rw [e] at this
    simpa using this
  · intro h
    refine rightB_of fun k hk => ?_
    obtain ⟨x, hx, _⟩ := get_of hk
    obtain ⟨h1, h2⟩ := h k x hx
    rw [okB_get hx, h1]
    by_cases e : x.Kind = 2
    · simp [e, h2 e]
    · simp [e]
theorem fits_kinds {xs : List Cell} {k : Nat} {x : Cell} (hx : xs[k]? = some x) (h : fitsB xs k = true) : ¬ (x.Kind ≠ 0 ∧ x.Kind ≠ 1 ∧ x.Kind ≠ 2) := by
  rintro ⟨h0, h1, h2⟩
  rcases (fits_iff hx).1 h with h | h | h
  · exact h0 h
  · exact h1 h.1
  · exact h2 h.1
theorem mendC_kept {xs : List Cell} {k : Nat} {x : Cell} (hx : xs[k]? = some x) (h : fitsB xs k = true) : (mendC xs k x).Kind = x.Kind ∧ (x.Kind = 2 → (mendC xs k x).R = 0) := by
  unfold mendC
  rw [if_neg (fits_kinds hx h), if_neg (by rw [h]; decide)]
  split
  · exact ⟨rfl, fun _ => rfl⟩
  · next h2 => exact ⟨rfl, fun e => absurd e h2⟩
theorem mendC_lost {xs : List Cell} {k : Nat} {x : Cell} (h : fitsB xs k = false) : (mendC xs k x).Kind = 0 := by
  unfold mendC
  rw [h]
  split
  · rfl
  · rfl

theorem right_mend (xs : List Cell) : rightB (mendL xs) = true := by
  refine right_iff.2 fun k x' hx' => ?_
  have hk : k < xs.length := by have := (List.getElem?_eq_some_iff.1 hx').1; rwa [mendL_length] at this
  obtain ⟨x, hx, _⟩ := get_of hk
  have hm := mendL_get xs k x hx
  rw [hx'] at hm
  cases hm
  cases hf : fitsB xs k with
  | false => 
    have h0 := mendC_lost (x := x) hf
    exact ⟨(fits_iff hx').2 (.inl h0), fun e => by rw [h0] at e; cases e⟩
  | true =>
    obtain ⟨e1, e2⟩ := mendC_kept hx hf
    rw [e1]
    refine ⟨(fits_iff hx').2 ?_, e2⟩
    rw [e1]
    rcases (fits_iff hx).1 hf with h | ⟨h, y, hy, h2⟩ | ⟨h, hk1, y, hy, h2⟩
    · exact .inl h
    · refine .inr (.inl ⟨h, _, mendL_get xs _ y hy, ?_⟩)
      have : fitsB xs ((k + 1 : Nat) : Int) = true := (fits_iff hy).2 (.inr (.inr ⟨h2, by omega, x, hx, h⟩))
      rw [(mendC_kept hy this).1, h2]
    · refine .inr (.inr ⟨h, hk1, _, mendL_get xs _ y hy, ?_⟩)
      have : fitsB xs ((k - 1 : Nat) : Int) = true := (fits_iff hy).2 (.inr (.inl ⟨h2, x, by rw [show k - 1 + 1 = k by omega]; exact hx, h⟩))
      rw [(mendC_kept hy this).1, h2]

theorem mend_id {xs : List Cell} (h : rightB xs = true) : mendL xs = xs := by
  refine List.ext_getElem? fun k => ?_
  cases hx : xs[k]? with
  | none => rw [List.getElem?_eq_none_iff] at hx ⊢; rw [mendL_length]; exact hx
  | some x =>
    rw [mendL_get xs k x hx]
    obtain ⟨h1, h2⟩ := right_iff.1 h k x hx
    unfold mendC
    rw [if_neg (fits_kinds hx h1), if_neg (by rw [h1]; decide)]
    split
    · next e =>
      have := h2 e
      cases x
      simp only at this
      rw [this]
    · rfl

theorem mend_mend (xs : List Cell) : mendL (mendL xs) = mendL xs := mend_id (right_mend xs)

/-! ### Halves, and what the reference writes over -/
theorem halfL_no {xs : List Cell} {p : Int} (h : p < 0 ∨ p ≥ xs.length) : halfL xs p = xs := by
  rw [halfL, if_neg (by omega)]
theorem halfL_fit {xs : List Cell} {p : Int} (h : fitsB xs p = true) : halfL xs p = xs := by
  rw [halfL, if_neg (by rw [h]; simp)]
theorem getD_of {xs : List Cell} {p : Nat} {x : Cell} (hx : xs[p]? = some x) : xs.getD p default = x := by
  rw [List.getD_eq_getElem?_getD, hx]; rfl
theorem halfL_set {xs : List Cell} {p : Nat} {x : Cell} (hx : xs[p]? = some x) (h : fitsB xs p = false) : halfL xs p = xs.set p (blankC x.A) := by
  have hp := (List.getElem?_eq_some_iff.1 hx).1
  rw [halfL, if_pos ⟨by omega, by omega, h⟩, show ((p : Int)).toNat = p from rfl, getD_of hx]
theorem kindAt_some {xs : List Cell} {p : Nat} {x : Cell} {k : Int} (hx : xs[p]? = some x) : kindAt xs p = k ↔ x.Kind = k := by rw [kindAt_get hx]

theorem patch {m W W' : List Cell} {lo hi : Nat} (hr : rightB m = true) (hlt : lo < hi) (hle : hi ≤ m.length) (hW : W.length = m.length)
    (h1 : ∀ i : Nat, (i < lo ∨ hi ≤ i) → W[i]? = m[i]?) (h2 : ∀ i : Nat, (i < lo ∨ hi ≤ i) → W'[i]? = (overL m lo hi)[i]?) (h3 : ∀ i : Nat, lo ≤ i → i < hi → W'[i]? = W[i]?)
    (h4 : ∀ x, W[lo]? = some x → x.Kind ≠ 2) (h5 : ∀ x, W[hi - 1]? = some x → x.Kind ≠ 1) : halvesL W lo hi = W' := by
  have hR := right_iff.1 hr
  unfold overL at h2
  unfold halvesL
  -- ahead of what was written
  have A : (∀ i : Nat, (i < lo ∨ hi ≤ i) → (halfL W ((lo : Int) - 1))[i]? = (over1 m lo)[i]?) ∧ (∀ i : Nat, lo ≤ i → (halfL W ((lo : Int) - 1))[i]? = W[i]?) := by
    cases lo with
    | zero =>
      rw [halfL_no (.inl (by omega))]
      have : over1 m ((0 : Nat) : Int) = m := by rw [over1, if_neg (by omega)]
      rw [this]
      exact ⟨h1, fun _ _ => rfl⟩
    | succ p =>
      rw [show ((p + 1 : Nat) : Int) - 1 = (p : Int) by omega]
      obtain ⟨x, hx, _⟩ := get_of (xs := m) (k := p) (by omega)
      obtain ⟨y, hy, _⟩ := get_of (xs := m) (k := p + 1) (by omega)
      have hWx : W[p]? = some x := by rw [h1 p (by omega), hx]
      by_cases hk : x.Kind = 1
      · have hy2 : y.Kind = 2 := by
          rcases (fits_iff hx).1 (hR p x hx).1 with h | ⟨_, y', hy', h⟩ | ⟨h, _⟩
          · omega
          · rw [hy] at hy'; cases hy'; exact h
          · omega
        have hf : fitsB W p = false := by
          cases hq : fitsB W p with
          | false => rfl
          | true =>
            rcases (fits_iff hWx).1 hq with h | ⟨_, y', hy', h⟩ | ⟨h, _⟩
            · omega
            · exact absurd h (h4 y' hy')
            · omega
        rw [halfL_set hWx hf]
        have : over1 m ((p + 1 : Nat) : Int) = m.set p (blankC x.A) := by
          rw [over1, if_pos ⟨by omega, by omega, (kindAt_some hy).2 hy2⟩, show ((((p + 1 : Nat) : Int)) - 1).toNat = p by omega, getD_of hx]
        rw [this]
        refine ⟨fun i hi => ?_, fun i hi => ?_⟩
        · rw [List.getElem?_set, List.getElem?_set, hW, h1 i hi]
        · rw [List.getElem?_set, if_neg (by omega)]
      · have hf : fitsB W p = true := by
          refine (fits_iff hWx).2 ?_
          rcases (fits_iff hx).1 (hR p x hx).1 with h | ⟨h, _⟩ | ⟨h, hp, y', hy', h'⟩
          · exact .inl h
          · exact absurd h hk
          · exact .inr (.inr ⟨h, hp, y', by rw [h1 _ (by omega)]; exact hy', h'⟩)
        rw [halfL_fit hf]
        have : over1 m ((p + 1 : Nat) : Int) = m := by
          rw [over1, if_neg]
          rintro ⟨_, _, e⟩
          rcases (fits_iff hy).1 (hR _ y hy).1 with h | ⟨h, _⟩ | ⟨h, hp, y', hy', h'⟩
          · have := (kindAt_some hy).1 e; omega
          · have := (kindAt_some hy).1 e; omega
          · rw [show p + 1 - 1 = p by omega, hx] at hy'
            cases hy'
            exact hk h'
        rw [this]
        exact ⟨h1, fun _ _ => rfl⟩
  obtain ⟨A1, A2⟩ := A
  have hVl := halfL_length W ((lo : Int) - 1)
  have hOl := over1_length m lo
  generalize halfL W ((lo : Int) - 1) = V at *
  generalize over1 m lo = O at *
  have fin : ∀ Z : List Cell, (∀ i : Nat, (i < lo ∨ hi ≤ i) → Z[i]? = (over2 O hi)[i]?) → (∀ i : Nat, lo ≤ i → i < hi → Z[i]? = V[i]?) → Z = W' := fun Z hz1 hz2 => by
    refine List.ext_getElem? fun i => ?_
    by_cases hi' : i < lo ∨ hi ≤ i
    · rw [hz1 i hi', h2 i hi']
    · rw [hz2 i (by omega) (by omega), h3 i (by omega) (by omega), A2 i (by omega)]
  rcases Nat.lt_or_ge hi m.length with hhi | hhi
  · obtain ⟨z, hz, _⟩ := get_of (xs := m) (k := hi) hhi
    have hVz : V[hi]? = some z := by rw [A2 hi (by omega), h1 hi (by omega), hz]
    have hOz : O[hi]? = some z := by rw [← A1 hi (by omega), hVz]
    by_cases hk : z.Kind = 2
    · have hf : fitsB V hi = false := by
        cases hq : fitsB V hi with
        | false => rfl
        | true =>
          rcases (fits_iff hVz).1 hq with h | ⟨h, _⟩ | ⟨_, _, y', hy', h⟩
          · omega
          · omega
          · rw [A2 _ (by omega)] at hy'
            exact absurd h (h5 y' hy')
      have e : over2 O hi = O.set hi (blankC z.A) := by
        rw [over2, if_pos ⟨by omega, by omega, (kindAt_some hOz).2 hk⟩, show ((hi : Int)).toNat = hi from rfl, getD_of hOz]
      rw [halfL_set hVz hf]
      refine fin _ (fun i hi' => ?_) fun i _ hi' => ?_
      · rw [e, List.getElem?_set, List.getElem?_set, A1 i hi', hVl, hOl, hW]
      · rw [List.getElem?_set, if_neg (by omega)]
    · have hf : fitsB V hi = true := by
        refine (fits_iff hVz).2 ?_
        rcases (fits_iff hz).1 (hR hi z hz).1 with h | ⟨h, y', hy', h'⟩ | ⟨h, _⟩
        · exact .inl h
        · exact .inr (.inl ⟨h, y', by rw [A2 _ (by omega), h1 _ (by omega)]; exact hy', h'⟩)
        · exact absurd h hk
      have e : over2 O hi = O := by
        rw [over2, if_neg]
        rintro ⟨_, _, e⟩
        exact hk ((kindAt_some hOz).1 e)
      rw [halfL_fit hf]
      exact fin _ (fun i hi' => by rw [e, A1 i hi']) fun i _ _ => rfl
  · have e : over2 O hi = O := by rw [over2, if_neg (by omega)]
    rw [halfL_no (.inr (by omega))]
    exact fin _ (fun i hi' => by rw [e, A1 i hi']) fun i _ _ => rfl

/-! ### Put, Erase, Insert, Resize -/
theorem wrotL_get {xs : List Cell} {col r width : Int} {a : Attr} (h : ¬ badPut xs.length col width) (i : Nat) :
    (wrotL xs col r width a)[i]? = if i = col.toNat then some ⟨r, if width = 2 then 1 else 0, a⟩ else if width = 2 ∧ i = col.toNat + 1 then some ⟨0, 2, a⟩ else xs[i]? := by
  unfold badPut at h
  unfold wrotL
  have e : (col + 1).toNat = col.toNat + 1 := by omega
  by_cases h2 : width = 2
  · rw [if_pos h2, if_pos h2, e]
    by_cases hi : i = col.toNat
    · subst hi
      rw [if_pos rfl, List.getElem?_set_ne (by omega), List.getElem?_set_self (by omega)]
    · rw [if_neg hi]
      by_cases hi2 : i = col.toNat + 1
      · subst hi2
        rw [if_pos ⟨h2, rfl⟩, List.getElem?_set_self (by rw [List.length_set]; omega)]
      · rw [if_neg (by omega), List.getElem?_set_ne (by omega), List.getElem?_set_ne (by omega)]
  · rw [if_neg h2, if_neg h2]
    by_cases hi : i = col.toNat
    · subst hi
      rw [if_pos rfl, List.getElem?_set_self (by omega)]
    · rw [if_neg hi, if_neg (by omega), List.getElem?_set_ne (by omega)]

theorem put_same (xs : List Cell) (col r width : Int) (a : Attr) : putP xs col r width a = putR xs col r width a := by
  unfold putP putR
  by_cases hb : badPut xs.length col width
  · rw [if_pos hb, if_pos hb]
  · rw [if_neg hb, if_neg hb]
    have hml := mendL_length xs
    have hr := right_mend xs
    generalize mendL xs = m at *
    rw [← hml] at hb
    have hbad := hb
    have hbo : ¬ badPut (overL m col (col + width)).length col width := by rw [overL_length]; exact hb
    unfold badPut at hb
    have e1 : col = ((col.toNat : Nat) : Int) := by omega
    have e2 : col + width = (((col + width).toNat : Nat) : Int) := by omega
    have key : halvesL (wrotL m col r width a) (col.toNat : Nat) ((col + width).toNat : Nat) = wrotL (overL m col (col + width)) col r width a := by
      refine patch (m := m) hr (by omega) (by omega) (wrotL_length _ _ _ _ _) (fun i hi => ?_) (fun i hi => ?_) (fun i h1 h2 => ?_) (fun x hx => ?_) (fun x hx => ?_)
      · rw [wrotL_get hbad, if_neg (by omega), if_neg (by omega)]
      · rw [wrotL_get hbo, if_neg (by omega), if_neg (by omega), ← e1, ← e2]
      · rw [wrotL_get hbad, wrotL_get hbo]
        by_cases h : i = col.toNat
        · rw [if_pos h, if_pos h]
        · rw [if_neg h, if_neg h, if_pos (by omega), if_pos (by omega)]
      · rw [wrotL_get hbad, if_pos rfl] at hx
        cases hx
        show (if width = 2 then (1 : Int) else 0) ≠ 2
        split <;> decide
      · rw [wrotL_get hbad] at hx
        by_cases h2 : width = 2
        · rw [if_neg (by omega), if_pos (by omega)] at hx
          cases hx
          show (2 : Int) ≠ 1
          decide
        · rw [if_pos (by omega), if_neg h2] at hx
          cases hx
          show (0 : Int) ≠ 1
          decide
    rw [← e1, ← e2] at key
    exact key

theorem fillL_get (xs : List Cell) (lo hi : Nat) (c : Cell) (i : Nat) : (fillL xs lo hi c)[i]? = if lo ≤ i ∧ i < hi then (xs[i]?).map fun _ => c else xs[i]? := by
  simp only [fillL, List.getElem?_mapIdx]
  by_cases h : lo ≤ i ∧ i < hi
  · simp [h]
  · simp [h]

theorem era_same (xs : List Cell) (from_ to : Int) (a : Attr) : eraP xs from_ to a = eraR xs from_ to a := by
  unfold eraP eraR
  have hml := mendL_length xs
  have hr := right_mend xs
  have hlo : 0 ≤ max 0 from_ := by omega
  have hhi : min (xs.length : Int) to ≤ xs.length := by omega
  dsimp only
  generalize max 0 from_ = lo at *
  generalize min (xs.length : Int) to = hi at *
  by_cases h : lo ≥ hi
  · rw [if_pos h, if_pos h]
  · rw [if_neg h, if_neg h]
    generalize mendL xs = m at *
    have e1 : lo = ((lo.toNat : Nat) : Int) := by omega
    have e2 : hi = ((hi.toNat : Nat) : Int) := by omega
    have key : halvesL (fillL m lo.toNat hi.toNat (blankC a)) (lo.toNat : Nat) (hi.toNat : Nat) = fillL (overL m lo hi) lo.toNat hi.toNat (blankC a) := by
      refine patch (m := m) hr (by omega) (by omega) (fillL_length _ _ _ _) (fun i hi => ?_) (fun i hi => ?_) (fun i h1 h2 => ?_) (fun x hx => ?_) (fun x hx => ?_)
      · rw [fillL_get, if_neg (by omega)]
      · rw [fillL_get, if_neg (by omega), ← e1, ← e2]
      · rw [fillL_get, fillL_get, if_pos ⟨h1, h2⟩, if_pos ⟨h1, h2⟩, List.getElem?_eq_getElem (by rw [overL_length]; omega), List.getElem?_eq_getElem (by omega)]
        rfl
      · rw [fillL_get, if_pos (by omega), List.getElem?_eq_getElem (by omega)] at hx
        cases hx
        show (0 : Int) ≠ 2
        decide
      · rw [fillL_get, if_pos (by omega), List.getElem?_eq_getElem (by omega)] at hx
        cases hx
        show (0 : Int) ≠ 1
        decide
    rw [← e1, ← e2] at key
    exact key

theorem ins_same (xs : List Cell) (col k : Int) (a : Attr) : insL xs col k a = insR xs col k a := by
  unfold insL insR
  have hml := mendL_length xs
  obtain ⟨hc0, hc1⟩ := manyL_bounds (n := xs.length) (col := col) (k := k)
  dsimp only
  generalize manyL xs.length col k = c at *
  by_cases h : c = 0
  · rw [if_pos h, if_pos h]
  · rw [if_neg h, if_neg h]
    obtain ⟨h1, h2⟩ := hc1 h
    congr 1
    have hl : (List.take col.toNat (mendL xs) ++ List.replicate c.toNat (blankC a)).length = col.toNat + c.toNat := by simp; omega
    rw [List.take_append, hl, List.take_of_length_le (l := List.take col.toNat (mendL xs) ++ List.replicate c.toNat (blankC a)) (by rw [hl]; omega), List.drop_take]
    congr 2
    omega

theorem right_pad {xs : List Cell} (h : rightB xs = true) (n : Nat) (a : Attr) : rightB (xs ++ List.replicate n (blankC a)) = true := by
  have hR := right_iff.1 h
  refine right_iff.2 fun k x hx => ?_
  rcases Nat.lt_or_ge k xs.length with hk | hk
  · rw [List.getElem?_append_left hk] at hx
    obtain ⟨h1, h2⟩ := hR k x hx
    refine ⟨(fits_iff (by rw [List.getElem?_append_left hk]; exact hx)).2 ?_, h2⟩
    rcases (fits_iff hx).1 h1 with h | ⟨h, y, hy, h'⟩ | ⟨h, hp, y, hy, h'⟩
    · exact .inl h
    · have := (List.getElem?_eq_some_iff.1 hy).1
      exact .inr (.inl ⟨h, y, by rw [List.getElem?_append_left this]; exact hy, h'⟩)
    · have := (List.getElem?_eq_some_iff.1 hy).1
      exact .inr (.inr ⟨h, hp, y, by rw [List.getElem?_append_left this]; exact hy, h'⟩)
  · have hx0 := hx
    rw [List.getElem?_append_right hk, List.getElem?_replicate] at hx
    split at hx
    · cases hx
      exact ⟨(fits_iff hx0).2 (.inl rfl), fun _ => rfl⟩
    · cases hx

theorem res_same (xs : List Cell) (cols : Int) : resL xs cols = resR xs cols := by
  unfold resL resR
  have hml := mendL_length xs
  have hr := right_mend xs
  dsimp only
  have hc : 0 ≤ min 1000 (max 0 cols) := by omega
  generalize min 1000 (max 0 cols) = c at *
  by_cases h : c ≤ xs.length
  · rw [if_pos h]
    by_cases h' : c < xs.length
    · rw [if_pos h']
    · rw [if_neg h', show (c - xs.length).toNat = 0 by omega, List.take_of_length_le (by omega)]
      simp
  · rw [if_neg h, if_neg (by omega), mend_id (right_pad hr _ _)]

end Go.Proofs.YtgejghejnibocaaDoor
