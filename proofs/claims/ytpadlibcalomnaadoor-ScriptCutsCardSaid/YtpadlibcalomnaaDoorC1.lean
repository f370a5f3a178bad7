/- Plain: a script's items joined, and cut. -/
import Derived.Test.YtpadlibcalomnaaDoorStrB
set_option linter.unusedVariables false
namespace Go.Proofs.YtpadlibcalomnaaDoor
set_option maxRecDepth 400000

structure ItL where
  f : List UInt8
  z : Bool
  r : Int
  c : Int
/-- One item more, joined. -/
def joinS (out : List ItL) (x : ItL) : List ItL :=
  if x.z then out ++ [⟨[], true, x.r, x.c⟩] else if x.f = [] then out else match out.getLast? with
    | some y => if y.z then out ++ [⟨x.f, false, 0, 0⟩] else out.dropLast ++ [⟨y.f ++ x.f, y.z, y.r, y.c⟩]
    | none => out ++ [⟨x.f, false, 0, 0⟩]
def joinItems (l : List ItL) : List ItL := l.foldl joinS []
/-- How far the next size that cuts is. -/
def far (sizes : List Int) : Nat → Nat → Nat
  | 0, _ => 0
  | n + 1, k => if 1 ≤ sizes[k % sizes.length]?.getD 0 then 0 else far sizes n (k + 1) + 1
def clampN (x : Int) (n : Nat) : Nat := if x < 1 then 0 else if (n : Int) < x then n else x.toNat
/-- A feed in pieces: the pieces, and where the sizes stand. -/
def cutF (sizes : List Int) : Nat → Nat → List UInt8 → List (List UInt8) × Nat
  | 0, k, _ => ([], k)
  | n + 1, k, b => if b = [] then ([], k) else
    let m := clampN (sizes[k]?.getD 0) b.length
    let t := cutF sizes n ((k + 1) % sizes.length) (b.drop m)
    (b.take m :: t.1, t.2)
theorem far_le (sizes : List Int) : ∀ n k, far sizes n k ≤ n
  | 0, _ => Nat.le_refl _
  | n + 1, k => by
    unfold far
    split
    · omega
    · have := far_le sizes n (k + 1); omega
def bitOf (b : List UInt8) : ItL := ⟨b, false, 0, 0⟩
def someB (sizes : List Int) : Bool := sizes.any fun n => decide (1 ≤ n)
/-! ### Joined again -/
theorem joinS_feed (out : List ItL) (a b : List UInt8) : joinS (joinS out (bitOf a)) (bitOf b) = joinS out (bitOf (a ++ b)) := by
  by_cases ha : a = []
  · subst ha
    have : joinS out (bitOf []) = out := by unfold joinS bitOf; simp
    rw [this]
    rfl
  by_cases hb : b = []
  · subst hb
    have : ∀ o, joinS o (bitOf []) = o := fun o => by unfold joinS bitOf; simp
    rw [this, List.append_nil]
  have hab : a ++ b ≠ [] := by simp [ha]
  have key : ∀ (o : List ItL) (y : ItL), y.z = false → joinS (o ++ [y]) (bitOf b) = o ++ [⟨y.f ++ b, y.z, y.r, y.c⟩] := fun o y hy => by
    unfold joinS bitOf
    simp [hb, hy]
  have step : ∀ x, x ≠ [] → joinS out (bitOf x) = match out.getLast? with
      | some y => if y.z then out ++ [⟨x, false, 0, 0⟩] else out.dropLast ++ [⟨y.f ++ x, y.z, y.r, y.c⟩]
      | none => out ++ [⟨x, false, 0, 0⟩] := fun x hx => by
    unfold joinS bitOf
    simp [hx]
  rw [step a ha, step _ hab]
  cases hl : out.getLast? with
  | none => simp only; exact key out ⟨a, false, 0, 0⟩ rfl
  | some y =>
    cases hz : y.z with
    | true => simp only [hz]; exact key out ⟨a, false, 0, 0⟩ rfl
    | false =>
      simp only [hz]
      have := key out.dropLast ⟨y.f ++ a, false, y.r, y.c⟩ rfl
      simp only [List.append_assoc] at this
      simpa using this
theorem join_pieces : ∀ (ps : List (List UInt8)) (out : List ItL), (ps.map bitOf).foldl joinS out = joinS out (bitOf ps.flatten)
  | [], out => by unfold joinS bitOf; simp
  | p :: ps, out => by
    rw [List.map_cons, List.foldl_cons, join_pieces ps, joinS_feed, List.flatten_cons]
theorem joinS_bit (out : List ItL) (x : ItL) (h : x.z = false) : joinS out (bitOf x.f) = joinS out x := by
  unfold joinS bitOf
  simp [h]
/-! ### All of a feed comes -/
def meas (sizes : List Int) (k : Nat) (b : List UInt8) : Nat := (sizes.length + 1) * b.length + far sizes sizes.length k
theorem far_zero (sizes : List Int) : ∀ n k, far sizes n k = 0 → 0 < n → 1 ≤ sizes[k % sizes.length]?.getD 0
  | 0, _, _, h => absurd h (by omega)
  | n + 1, k, h, _ => by
    unfold far at h
    split at h
    · assumption
    · omega
theorem far_step (sizes : List Int) {k : Nat} (hk : ¬ 1 ≤ sizes[k % sizes.length]?.getD 0) (n : Nat) : far sizes (n + 1) k = far sizes n (k + 1) + 1 := by
  conv => lhs; unfold far
  rw [if_neg hk]
/-- If one comes within n steps, more steps change nothing. -/
theorem far_more (sizes : List Int) : ∀ n k, far sizes n k < n → far sizes (n + 1) k = far sizes n k
  | 0, _, h => absurd h (by omega)
  | n + 1, k, h => by
    by_cases hk : 1 ≤ sizes[k % sizes.length]?.getD 0
    · unfold far
      rw [if_pos hk, if_pos hk]
    · rw [far_step sizes hk, far_step sizes hk] at *
      rw [far_more sizes n (k + 1) (by omega)]
theorem far_hit (sizes : List Int) : ∀ (n k j : Nat), j < n → 1 ≤ sizes[(k + j) % sizes.length]?.getD 0 → far sizes n k ≤ j
  | 0, _, _, h, _ => absurd h (by omega)
  | n + 1, k, j, h, hj => by
    by_cases hk : 1 ≤ sizes[k % sizes.length]?.getD 0
    · unfold far
      rw [if_pos hk]
      omega
    · rw [far_step sizes hk]
      cases j with
      | zero => exact absurd hj hk
      | succ j =>
        have := far_hit sizes n (k + 1) j (by omega) (by rw [show k + 1 + j = k + (j + 1) by omega]; exact hj)
        omega
theorem some_at {sizes : List Int} (h : someB sizes = true) : ∃ i, i < sizes.length ∧ 1 ≤ sizes[i]?.getD 0 := by
  unfold someB at h
  obtain ⟨x, hx, h1⟩ := List.any_eq_true.1 h
  obtain ⟨i, hi, he⟩ := List.getElem_of_mem hx
  exact ⟨i, hi, by rw [List.getElem?_eq_getElem hi, he]; simpa using h1⟩
theorem far_lt {sizes : List Int} (h : someB sizes = true) {k : Nat} (hk : k < sizes.length) : far sizes sizes.length k < sizes.length := by
  obtain ⟨i, hi, h1⟩ := some_at h
  have : far sizes sizes.length k ≤ (i + sizes.length - k) % sizes.length := by
    refine far_hit sizes _ k _ (Nat.mod_lt _ (by omega)) ?_
    have e : (k + (i + sizes.length - k) % sizes.length) % sizes.length = i := by
      rw [Nat.add_mod_mod, show k + (i + sizes.length - k) = i + sizes.length by omega, Nat.add_mod_right, Nat.mod_eq_of_lt hi]
    rw [e]
    exact h1
  have := Nat.mod_lt (i + sizes.length - k) (y := sizes.length) (by omega)
  omega
theorem clamp_le (x : Int) (n : Nat) : clampN x n ≤ n := by unfold clampN; split; omega; split <;> omega
/-- The measure falls. -/
theorem meas_falls {sizes : List Int} (h : someB sizes = true) {k : Nat} (hk : k < sizes.length) {b : List UInt8} (hb : b ≠ []) :
    meas sizes ((k + 1) % sizes.length) (b.drop (clampN (sizes[k]?.getD 0) b.length)) < meas sizes k b := by
  have hbl : 0 < b.length := List.length_pos_iff.2 hb
  unfold meas
  have hmod : k % sizes.length = k := Nat.mod_eq_of_lt hk
  have hk' : (k + 1) % sizes.length < sizes.length := Nat.mod_lt _ (by omega)
  rw [List.length_drop]
  by_cases hx : 1 ≤ sizes[k]?.getD 0
  · have hm : 1 ≤ clampN (sizes[k]?.getD 0) b.length := by unfold clampN; rw [if_neg (by omega)]; split <;> omega
    have hle := clamp_le (sizes[k]?.getD 0) b.length
    have := far_lt h hk'
    have e : (sizes.length + 1) * (b.length - clampN (sizes[k]?.getD 0) b.length) + (sizes.length + 1) ≤ (sizes.length + 1) * b.length := by
      rw [← Nat.mul_succ]
      exact Nat.mul_le_mul_left _ (by omega)
    omega
  · have hm : clampN (sizes[k]?.getD 0) b.length = 0 := by unfold clampN; rw [if_pos (by omega)]
    rw [hm, Nat.sub_zero]
    have h1 := far_lt h hk
    obtain ⟨n, hn⟩ : ∃ n, sizes.length = n + 1 := ⟨sizes.length - 1, by omega⟩
    have e1 : far sizes sizes.length k = far sizes n (k + 1) + 1 := by
      rw [hn]
      exact far_step sizes (by rw [hmod]; exact hx) n
    have e2 : far sizes sizes.length (k + 1) = far sizes n (k + 1) := by
      have := far_more sizes n (k + 1) (by omega)
      rw [hn]
      exact this
    have e3 : ∀ m j, far sizes m (j % sizes.length) = far sizes m j := by
      intro m
      induction m with
      | zero => intro j; rfl
      | succ m ih =>
        intro j
        unfold far
        rw [Nat.mod_mod, ← ih (j % sizes.length + 1), Nat.mod_add_mod, ih]
    rw [e3, e2, e1]
    omega
theorem cutF_more (sizes : List Int) : ∀ (n k : Nat) (b : List UInt8), someB sizes = true → k < sizes.length → meas sizes k b ≤ n → ∀ m, n ≤ m → cutF sizes m k b = cutF sizes n k b := by
  intro n
  induction n with
  | zero =>
    intro k b h hk hm m hnm
    have hb : b = [] := by
      by_cases hb : b = []
      · exact hb
      · have := meas_falls h hk hb
        omega
    subst hb
    cases m <;> simp [cutF]
  | succ n ih =>
    intro k b h hk hm m hnm
    obtain ⟨m', rfl⟩ : ∃ m', m = m' + 1 := ⟨m - 1, by omega⟩
    unfold cutF
    by_cases hb : b = []
    · rw [if_pos hb, if_pos hb]
    · rw [if_neg hb, if_neg hb]
      have := meas_falls h hk hb
      have e := ih ((k + 1) % sizes.length) (b.drop (clampN (sizes[k]?.getD 0) b.length)) h (Nat.mod_lt _ (by omega)) (by omega) m' (by omega)
      dsimp only
      rw [e]
theorem cutF_all (sizes : List Int) : ∀ (n k : Nat) (b : List UInt8), someB sizes = true → k < sizes.length → meas sizes k b ≤ n → (cutF sizes n k b).1.flatten = b ∧ (cutF sizes n k b).2 < sizes.length := by
  intro n
  induction n with
  | zero =>
    intro k b h hk hm
    have hb : b = [] := by
      by_cases hb : b = []
      · exact hb
      · have := meas_falls h hk hb
        omega
    subst hb
    exact ⟨rfl, hk⟩
  | succ n ih =>
    intro k b h hk hm
    unfold cutF
    by_cases hb : b = []
    · rw [if_pos hb]
      exact ⟨hb.symm, hk⟩
    · rw [if_neg hb]
      have := meas_falls h hk hb
      obtain ⟨h1, h2⟩ := ih _ (b.drop (clampN (sizes[k]?.getD 0) b.length)) h (Nat.mod_lt (k + 1) (by omega)) (by omega)
      refine ⟨?_, h2⟩
      rw [List.flatten_cons, h1, List.take_append_drop]
theorem meas_le {sizes : List Int} (h : someB sizes = true) {k : Nat} (hk : k < sizes.length) {b : List UInt8} (hb : b ≠ []) : meas sizes k b ≤ (sizes.length + 1) * b.length + sizes.length := by
  have := far_lt h hk
  unfold meas
  omega
theorem someB_pos {sizes : List Int} (h : someB sizes = true) : 0 < sizes.length := by
  obtain ⟨i, hi, _⟩ := some_at h
  omega
/-- One step of cutF, with fuel that is enough. -/
def cutA (sizes : List Int) (k : Nat) (b : List UInt8) : List (List UInt8) × Nat := cutF sizes (meas sizes k b) k b
theorem cutA_nil (sizes : List Int) (k : Nat) : cutA sizes k [] = ([], k) := by
  unfold cutA
  cases meas sizes k [] <;> simp [cutF]
theorem cutA_step {sizes : List Int} (h : someB sizes = true) {k : Nat} (hk : k < sizes.length) {b : List UInt8} (hb : b ≠ []) :
    cutA sizes k b = (b.take (clampN (sizes[k]?.getD 0) b.length) :: (cutA sizes ((k + 1) % sizes.length) (b.drop (clampN (sizes[k]?.getD 0) b.length))).1, (cutA sizes ((k + 1) % sizes.length) (b.drop (clampN (sizes[k]?.getD 0) b.length))).2) := by
  have hf := meas_falls h hk hb
  obtain ⟨n, hn⟩ : ∃ n, meas sizes k b = n + 1 := ⟨meas sizes k b - 1, by omega⟩
  have hk' : (k + 1) % sizes.length < sizes.length := Nat.mod_lt _ (by omega)
  have e := cutF_more sizes _ ((k + 1) % sizes.length) (b.drop (clampN (sizes[k]?.getD 0) b.length)) h hk' (Nat.le_refl _) n (by omega)
  unfold cutA
  rw [hn]
  conv => lhs; unfold cutF
  rw [if_neg hb]
  dsimp only
  rw [e]
/-- All items cut: what comes, and where the sizes stand. -/
def cutS (sizes : List Int) (st : List ItL × Nat) (x : ItL) : List ItL × Nat :=
  if x.z || !someB sizes || decide (x.f = []) then (st.1 ++ [x], st.2) else (st.1 ++ (cutA sizes st.2 x.f).1.map bitOf, (cutA sizes st.2 x.f).2)
def cutItems (sizes : List Int) (l : List ItL) : List ItL := (l.foldl (cutS sizes) ([], 0)).1
theorem join_cut (sizes : List Int) : ∀ (l : List ItL) (st : List ItL × Nat), (someB sizes = true → st.2 < sizes.length) → (l.foldl (cutS sizes) st).1.foldl joinS [] = l.foldl joinS (st.1.foldl joinS [])
  | [], st, _ => rfl
  | x :: l, st, hst => by
    rw [List.foldl_cons, List.foldl_cons]
    by_cases hx : (x.z || !someB sizes || decide (x.f = [])) = true
    · have e : cutS sizes st x = (st.1 ++ [x], st.2) := by unfold cutS; rw [if_pos hx]
      rw [e, join_cut sizes l (st.1 ++ [x], st.2) hst, List.foldl_append]
      rfl
    · have e : cutS sizes st x = (st.1 ++ (cutA sizes st.2 x.f).1.map bitOf, (cutA sizes st.2 x.f).2) := by unfold cutS; rw [if_neg hx]
      simp only [Bool.or_eq_true, not_or, Bool.not_eq_true, Bool.not_eq_true', decide_eq_true_eq] at hx
      obtain ⟨⟨hz, hs⟩, hf⟩ := hx
      have hs : someB sizes = true := by simpa using hs
      obtain ⟨h1, h2⟩ := cutF_all sizes _ st.2 x.f hs (hst hs) (Nat.le_refl _)
      rw [e, join_cut sizes l _ (fun _ => h2), List.foldl_append, join_pieces]
      have h1' : (cutA sizes st.2 x.f).1.flatten = x.f := h1
      rw [h1', joinS_bit _ _ hz]
theorem join_cut_items (sizes : List Int) (l : List ItL) : joinItems (cutItems sizes l) = joinItems l := join_cut sizes l ([], 0) fun h => someB_pos h
end Go.Proofs.YtpadlibcalomnaaDoor
