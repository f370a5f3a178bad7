/- Plain laws of lines: what Put, Insert, Delete and Erase leave is right; lengths; letters in range. No program in sight. -/
import Derived.Test.YtgejghejnibocaaDoorP1
namespace Go.Proofs.YtgejghejnibocaaDoor
open Go.Vc Go.RowKit

/-- What is written between lo and hi is right by itself. -/
def Inner (W : List Cell) (lo hi : Nat) : Prop := ∀ (k : Nat) x, lo ≤ k → k < hi → W[k]? = some x →
  x.Kind = 0 ∨ (x.Kind = 1 ∧ k + 1 < hi ∧ ∃ y, W[k + 1]? = some y ∧ y.Kind = 2) ∨ (x.Kind = 2 ∧ x.R = 0 ∧ lo < k ∧ ∃ y, W[k - 1]? = some y ∧ y.Kind = 1)

theorem over1_get {m : List Cell} {lo : Nat} (i : Nat) : (over1 m lo)[i]? = if i + 1 = lo ∧ lo < m.length ∧ kindAt m lo = 2 then some (blankC (m.getD i default).A) else m[i]? := by
  unfold over1
  by_cases h : 0 < (lo : Int) ∧ (lo : Int) < m.length ∧ kindAt m lo = 2
  · rw [if_pos h]
    obtain ⟨h0, h1, h2⟩ := h
    have e : ((lo : Int) - 1).toNat = lo - 1 := by omega
    rw [e, List.getElem?_set]
    by_cases hi : i + 1 = lo
    · rw [if_pos (by omega), if_pos (by omega), if_pos ⟨hi, by omega, h2⟩, show lo - 1 = i by omega]
    · rw [if_neg (by omega), if_neg (by omega)]
  · rw [if_neg h, if_neg]
    rintro ⟨h1, h2, h3⟩
    exact h ⟨by omega, by omega, h3⟩
theorem over2_get {m : List Cell} {hi : Nat} (h0 : 0 < hi) (i : Nat) : (over2 m hi)[i]? = if i = hi ∧ hi < m.length ∧ kindAt m hi = 2 then some (blankC (m.getD i default).A) else m[i]? := by
  unfold over2
  by_cases h : 0 < (hi : Int) ∧ (hi : Int) < m.length ∧ kindAt m hi = 2
  · rw [if_pos h]
    obtain ⟨h0, h1, h2⟩ := h
    rw [show ((hi : Int)).toNat = hi from rfl, List.getElem?_set]
    by_cases e : i = hi
    · subst e
      rw [if_pos rfl, if_pos (by omega), if_pos ⟨rfl, by omega, h2⟩]
    · rw [if_neg (by omega), if_neg (by omega)]
  · rw [if_neg h, if_neg]
    rintro ⟨h1, h2, h3⟩
    exact h ⟨by omega, by omega, h3⟩

/-- A list that is a right one outside, with the halves at the edges blanked, and right by itself inside, is right. -/
theorem right_over {m Z : List Cell} {lo hi : Nat} (hr : rightB m = true) (hlt : lo < hi) (hle : hi ≤ m.length) (hZ : Z.length = m.length)
    (h2 : ∀ i : Nat, (i < lo ∨ hi ≤ i) → Z[i]? = (overL m lo hi)[i]?) (h3 : Inner Z lo hi) : rightB Z = true := by
  have hR := right_iff.1 hr
  have hol : (over1 m lo).length = m.length := over1_length m lo
  -- outside: as it was, or blank
  have out1 : ∀ (i : Nat) x, i < lo → m[i]? = some x → Z[i]? = some x ∧ (i + 1 = lo → x.Kind ≠ 1) ∨ ∃ a, Z[i]? = some (blankC a) := by
    intro i x hi hx
    rw [h2 i (.inl hi), overL, over2_get (by omega), if_neg (by omega), over1_get]
    by_cases hc : i + 1 = lo ∧ lo < m.length ∧ kindAt m lo = 2
    · rw [if_pos hc]; exact .inr ⟨_, rfl⟩
    · rw [if_neg hc]
      refine .inl ⟨hx, fun e hk => hc ⟨e, by omega, ?_⟩⟩
      rcases (fits_iff hx).1 (hR i x hx).1 with h | ⟨_, y, hy, h⟩ | ⟨h, _⟩
      · omega
      · rw [e] at hy
        exact (kindAt_some hy).2 h
      · omega
  have kept1 : ∀ (i : Nat) x, i + 1 < lo → m[i]? = some x → Z[i]? = some x := by
    intro i x hi hx
    rw [h2 i (.inl (by omega)), overL, over2_get (by omega), if_neg (by omega), over1_get, if_neg (by omega), hx]
  have kept2 : ∀ (i : Nat) x, hi < i → m[i]? = some x → Z[i]? = some x := by
    intro i x hi' hx
    rw [h2 i (.inr (by omega)), overL, over2_get (by omega), if_neg (by omega), over1_get, if_neg (by omega), hx]
  have out2 : ∀ (i : Nat) x, hi ≤ i → m[i]? = some x → Z[i]? = some x ∧ (i = hi → x.Kind ≠ 2) ∨ ∃ a, Z[i]? = some (blankC a) := by
    intro i x hi' hx
    have ho : (over1 m lo)[i]? = some x := by rw [over1_get, if_neg (by omega), hx]
    rw [h2 i (.inr hi'), overL, over2_get (by omega)]
    by_cases hc : i = hi ∧ hi < (over1 m lo).length ∧ kindAt (over1 m lo) hi = 2
    · rw [if_pos hc]; exact .inr ⟨_, rfl⟩
    · rw [if_neg hc]
      refine .inl ⟨ho, fun e hk => hc ⟨e, ?_, ?_⟩⟩
      · have := (List.getElem?_eq_some_iff.1 hx).1; omega
      · subst e
        exact (kindAt_some ho).2 hk
  refine right_iff.2 fun k z hz => ?_
  have hkl : k < m.length := by rw [← hZ]; exact (List.getElem?_eq_some_iff.1 hz).1
  obtain ⟨x, hx, _⟩ := get_of hkl
  obtain ⟨hf, hx2⟩ := hR k x hx
  have blank : (∃ a, Z[k]? = some (blankC a)) → fitsB Z k = true ∧ (z.Kind = 2 → z.R = 0) := by
    rintro ⟨a, e⟩
    rw [hz] at e
    cases e
    exact ⟨(fits_iff hz).2 (.inl rfl), fun _ => rfl⟩
  by_cases h1 : k < lo
  · rcases out1 k x h1 hx with ⟨e, hne⟩ | hb
    · rw [hz] at e
      cases e
      refine ⟨(fits_iff hz).2 ?_, hx2⟩
      rcases (fits_iff hx).1 hf with h | ⟨h, y, hy, h'⟩ | ⟨h, hp, y, hy, h'⟩
      · exact .inl h
      · have hk1 : k + 1 < lo := by
          rcases Nat.lt_or_ge (k + 1) lo with h'' | h''
          · exact h''
          · exact absurd h (hne (by omega))
        refine .inr (.inl ⟨h, y, ?_, h'⟩)
        rcases out1 (k + 1) y hk1 hy with ⟨e, _⟩ | ⟨a, e⟩
        · exact e
        · -- the half behind is not at the edge with a first half in it
          rw [h2 (k + 1) (.inl hk1), overL, over2_get (by omega), if_neg (by omega), over1_get] at e
          by_cases hc : k + 1 + 1 = lo ∧ lo < m.length ∧ kindAt m lo = 2
          · obtain ⟨hc1, hc2, hc3⟩ := hc
            obtain ⟨q, hq, _⟩ := get_of (xs := m) (k := lo) hc2
            have hq2 := (kindAt_some hq).1 hc3
            rcases (fits_iff hq).1 (hR lo q hq).1 with h | ⟨h, _⟩ | ⟨_, _, y', hy', h''⟩
            · omega
            · omega
            · rw [show lo - 1 = k + 1 by omega, hy] at hy'
              cases hy'
              omega
          · rw [h2 (k + 1) (.inl hk1), overL, over2_get (by omega), if_neg (by omega), over1_get, if_neg hc]
            exact hy
      · exact .inr (.inr ⟨h, hp, y, kept1 _ y (by omega) hy, h'⟩)
    · exact blank hb
  · by_cases h1' : k < hi
    · rcases h3 k z (by omega) h1' hz with h | ⟨h, _, y, hy, h'⟩ | ⟨h, hr0, hlk, y, hy, h'⟩
      · exact ⟨(fits_iff hz).2 (.inl h), fun e => by omega⟩
      · exact ⟨(fits_iff hz).2 (.inr (.inl ⟨h, y, hy, h'⟩)), fun e => by omega⟩
      · exact ⟨(fits_iff hz).2 (.inr (.inr ⟨h, by omega, y, hy, h'⟩)), fun _ => hr0⟩
    · rcases out2 k x (by omega) hx with ⟨e, hne⟩ | hb
      · rw [hz] at e
        cases e
        refine ⟨(fits_iff hz).2 ?_, hx2⟩
        rcases (fits_iff hx).1 hf with h | ⟨h, y, hy, h'⟩ | ⟨h, hp, y, hy, h'⟩
        · exact .inl h
        · exact .inr (.inl ⟨h, y, kept2 _ y (by omega) hy, h'⟩)
        · have hk1 : hi < k := by
            rcases Nat.lt_or_ge hi k with h'' | h''
            · exact h''
            · exact absurd h (hne (by omega))
          refine .inr (.inr ⟨h, hp, y, ?_, h'⟩)
          rcases out2 (k - 1) y (by omega) hy with ⟨e, _⟩ | ⟨a, e⟩
          · exact e
          · by_cases hk2 : hi < k - 1
            · exact kept2 _ y hk2 hy
            · have he : k - 1 = hi := by omega
              have ho : (over1 m lo)[hi]? = some y := by rw [over1_get, if_neg (by omega), ← he, hy]
              rw [he, h2 hi (.inr (by omega)), overL, over2_get (by omega), if_neg, ho]
              rintro ⟨_, _, hc⟩
              have := (kindAt_some ho).1 hc
              omega
      · exact blank hb

theorem right_put (xs : List Cell) (col r width : Int) (a : Attr) : rightB (putP xs col r width a) = true := by
  rw [put_same]
  unfold putR
  by_cases hb : badPut xs.length col width
  · rw [if_pos hb]; exact right_mend xs
  · rw [if_neg hb]
    have hml := mendL_length xs
    have hr := right_mend xs
    generalize mendL xs = m at *
    rw [← hml] at hb
    have hbo : ¬ badPut (overL m col (col + width)).length col width := by rw [overL_length]; exact hb
    have hbad := hb
    unfold badPut at hb
    have e1 : col = ((col.toNat : Nat) : Int) := by omega
    have e2 : col + width = (((col + width).toNat : Nat) : Int) := by omega
    refine right_over (m := m) (lo := col.toNat) (hi := (col + width).toNat) hr (by omega) (by omega) (by rw [wrotL_length, overL_length]) (fun i hi => ?_) ?_
    · rw [wrotL_get hbo, if_neg (by omega), if_neg (by omega), ← e1, ← e2]
    · intro k x h1 h2 hx
      rw [wrotL_get hbo] at hx
      by_cases hk : k = col.toNat
      · rw [if_pos hk] at hx
        cases hx
        by_cases hw : width = 2
        · refine .inr (.inl ⟨by show (if width = 2 then (1 : Int) else 0) = 1; rw [if_pos hw], by omega, ⟨0, 2, a⟩, ?_, rfl⟩)
          rw [wrotL_get hbo, if_neg (by omega), if_pos ⟨hw, by omega⟩]
        · exact .inl (by show (if width = 2 then (1 : Int) else 0) = 0; rw [if_neg hw])
      · rw [if_neg hk, if_pos (by omega)] at hx
        cases hx
        refine .inr (.inr ⟨rfl, rfl, by omega, ⟨r, if width = 2 then 1 else 0, a⟩, ?_, ?_⟩)
        · rw [wrotL_get hbo, if_pos (by omega)]
        · show (if width = 2 then (1 : Int) else 0) = 1
          rw [if_pos (by omega)]
theorem right_era (xs : List Cell) (from_ to : Int) (a : Attr) : rightB (eraP xs from_ to a) = true := by
  rw [era_same]
  unfold eraR
  have hml := mendL_length xs
  have hr := right_mend xs
  have hlo : 0 ≤ max 0 from_ := by omega
  have hhi : min (xs.length : Int) to ≤ xs.length := by omega
  dsimp only
  generalize max 0 from_ = lo at *
  generalize min (xs.length : Int) to = hi at *
  by_cases h : lo ≥ hi
  · rw [if_pos h]; exact hr
  · rw [if_neg h]
    generalize mendL xs = m at *
    have e1 : lo = ((lo.toNat : Nat) : Int) := by omega
    have e2 : hi = ((hi.toNat : Nat) : Int) := by omega
    refine right_over (m := m) (lo := lo.toNat) (hi := hi.toNat) hr (by omega) (by omega) (by rw [fillL_length, overL_length]) (fun i hi => ?_) ?_
    · rw [fillL_get, if_neg (by omega), ← e1, ← e2]
    · intro k x h1 h2 hx
      rw [fillL_get, if_pos ⟨h1, h2⟩] at hx
      obtain ⟨y, _, rfl⟩ := Option.map_eq_some_iff.1 hx
      exact .inl rfl
theorem right_ins (xs : List Cell) (col k : Int) (a : Attr) : rightB (insL xs col k a) = true := by
  unfold insL
  dsimp only
  split
  · exact right_mend xs
  · exact right_mend _
theorem right_del (xs : List Cell) (col k : Int) (a : Attr) : rightB (delL xs col k a) = true := by
  unfold delL
  dsimp only
  split
  · exact right_mend xs
  · exact right_mend _

/-! ### Lengths -/
theorem putP_length (xs : List Cell) (col r width : Int) (a : Attr) : (putP xs col r width a).length = xs.length := by
  unfold putP
  split
  · exact mendL_length xs
  · rw [halvesL_length, wrotL_length, mendL_length]
theorem eraP_length (xs : List Cell) (from_ to : Int) (a : Attr) : (eraP xs from_ to a).length = xs.length := by
  unfold eraP
  dsimp only
  split
  · exact mendL_length xs
  · rw [halvesL_length, fillL_length, mendL_length]
theorem insL_length (xs : List Cell) (col k : Int) (a : Attr) : (insL xs col k a).length = xs.length := by
  unfold insL
  have hml := mendL_length xs
  obtain ⟨hc0, hc1⟩ := manyL_bounds (n := xs.length) (col := col) (k := k)
  dsimp only
  generalize manyL xs.length col k = c at *
  split
  · exact hml
  · next h =>
    have := hc1 h
    rw [mendL_length]
    simp
    omega
theorem delL_length (xs : List Cell) (col k : Int) (a : Attr) : (delL xs col k a).length = xs.length := by
  unfold delL
  have hml := mendL_length xs
  obtain ⟨hc0, hc1⟩ := manyL_bounds (n := xs.length) (col := col) (k := k)
  dsimp only
  generalize manyL xs.length col k = c at *
  split
  · exact hml
  · next h =>
    have := hc1 h
    rw [mendL_length]
    simp
    omega
theorem resL_length (xs : List Cell) (cols : Int) : (resL xs cols).length = (min 1000 (max 0 cols)).toNat := by
  unfold resL
  have hml := mendL_length xs
  dsimp only
  split
  · rw [mendL_length]; simp; omega
  · simp; omega

/-! ### Letters in range -/
theorem okR_set {xs : List Cell} (h : okR xs) {i : Nat} {c : Cell} (hc : -9223372036854775808 ≤ c.R ∧ c.R ≤ 9223372036854775807) : okR (xs.set i c) := fun x hx => by
  rcases List.mem_or_eq_of_mem_set hx with h1 | h1
  · exact h x h1
  · rw [h1]; exact hc
theorem okR_blank (a : Attr) : -9223372036854775808 ≤ (blankC a).R ∧ (blankC a).R ≤ 9223372036854775807 := ⟨show (-9223372036854775808 : Int) ≤ 0 by decide, show (0 : Int) ≤ 9223372036854775807 by decide⟩
theorem okR_blanks (n : Nat) (a : Attr) : okR (List.replicate n (blankC a)) := fun c hc => by rw [List.eq_of_mem_replicate hc]; exact okR_blank a
theorem okR_append {xs ys : List Cell} (h : okR xs) (h' : okR ys) : okR (xs ++ ys) := fun c hc => by
  rcases List.mem_append.1 hc with h1 | h1
  · exact h c h1
  · exact h' c h1
theorem okR_take {xs : List Cell} (h : okR xs) (n : Nat) : okR (xs.take n) := fun c hc => h c (List.mem_of_mem_take hc)
theorem okR_drop {xs : List Cell} (h : okR xs) (n : Nat) : okR (xs.drop n) := fun c hc => h c (List.mem_of_mem_drop hc)
theorem okR_half {xs : List Cell} (h : okR xs) (p : Int) : okR (halfL xs p) := by
  unfold halfL
  split
  · exact okR_set h (okR_blank _)
  · exact h
theorem okR_put {xs : List Cell} (h : okR xs) {col r width : Int} {a : Attr} (hr : -9223372036854775808 ≤ r ∧ r ≤ 9223372036854775807) : okR (putP xs col r width a) := by
  unfold putP
  split
  · exact okR_mend h
  · refine okR_half (okR_half ?_ _) _
    unfold wrotL
    split
    · exact okR_set (okR_set (okR_mend h) hr) ⟨show (-9223372036854775808 : Int) ≤ 0 by decide, show (0 : Int) ≤ 9223372036854775807 by decide⟩
    · exact okR_set (okR_mend h) hr
theorem okR_fill {xs : List Cell} (h : okR xs) (lo hi : Nat) (a : Attr) : okR (fillL xs lo hi (blankC a)) := by
  intro c hc
  obtain ⟨i, hi'⟩ := List.getElem?_of_mem hc
  rw [fillL_get] at hi'
  split at hi'
  · obtain ⟨y, _, rfl⟩ := Option.map_eq_some_iff.1 hi'
    exact okR_blank a
  · exact h c (List.mem_of_getElem? hi')
theorem okR_era {xs : List Cell} (h : okR xs) (from_ to : Int) (a : Attr) : okR (eraP xs from_ to a) := by
  unfold eraP
  dsimp only
  split
  · exact okR_mend h
  · exact okR_half (okR_half (okR_fill (okR_mend h) _ _ _) _) _
theorem okR_ins {xs : List Cell} (h : okR xs) (col k : Int) (a : Attr) : okR (insL xs col k a) := by
  unfold insL
  dsimp only
  split
  · exact okR_mend h
  · exact okR_mend (okR_append (okR_append (okR_take (okR_mend h) _) (okR_blanks _ _)) (okR_drop (okR_take (okR_mend h) _) _))
theorem okR_del {xs : List Cell} (h : okR xs) (col k : Int) (a : Attr) : okR (delL xs col k a) := by
  unfold delL
  dsimp only
  split
  · exact okR_mend h
  · exact okR_mend (okR_append (okR_append (okR_take (okR_mend h) _) (okR_drop (okR_mend h) _)) (okR_blanks _ _))
theorem okR_res {xs : List Cell} (h : okR xs) (cols : Int) : okR (resL xs cols) := by
  unfold resL
  dsimp only
  split
  · exact okR_mend (okR_take (okR_mend h) _)
  · exact okR_append (okR_mend h) (okR_blanks _ _)

end Go.Proofs.YtgejghejnibocaaDoor
