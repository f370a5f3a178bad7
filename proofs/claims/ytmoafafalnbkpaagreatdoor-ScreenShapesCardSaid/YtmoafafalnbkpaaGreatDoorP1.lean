/- Program-generic: slices that read as lists, rows of a call's own, and the rules of the texts' words over them. No program in sight. Program-generic: more rules over slices that read as lists. No program in sight. Program-generic: from what a row gives to the values a walk takes, and from the walk to what a row asks. No program in sight. Program-generic: further rules over slices and calls; numbers as bits. No program in sight. Program-generic: further rules over rows. No program in sight. By program (gen2.py): elements of rows, slice types. The kit's contract for strconv.Itoa, laid at this program by the kit's tool. Bytes as strings, strings as bytes; the library's functions over them. The world that lays the listed tables. What the functions of lines come to: blanks, New, is, fits, Right, Clone, Mend of the program; blank, New, Right, Mend, Same of the reference. What the functions of lines come to: Right of the program; blank, New, Right, Mend, Same of the reference. What the functions of lines come to: Mend, Same of the reference. What the program's writing functions of lines come to: halves, Put, many, Insert, Delete, Erase, Resize; Concat; Equal, Same. What the reference's writing functions of lines come to: over, Put, count, Insert, Delete, Erase, Resize. Characters as bytes: what utf's Is, Encode and the reference's none, Encode come to. Builders, TrimRight, the reference's Encode; the text of a line, by both. TrimRight; the text of a line, by the program and by the reference. Plain laws of lines: what is mended is right; writing and then mending the halves is what the reference does. No program in sight. Plain laws of lines: what Put, Insert, Delete and Erase leave is right; lengths; letters in range. No program in sight. Rings of lines, and rows of lines: what their functions come to. Rings of lines: Push, Clear. Grids of the program: what they are in memory; is, Size, Top, Back, First, Line, Old, blanks, Clear, Set, New. Grids of the program: blanks, Clear, Set, Forget, New. Grids of the program: Scroll. Grids of the program: Scroll. Grids of the program: Scroll. Grids of the program: Resize. Grids of the program: Text, Fill. -/
import Derived.Test.YtmoafafalnbkpaaGreatDoorVc
import Derived.Below
import Derived.Maps.AppendAt
import Derived.Laws.OwnMore
import Derived.IntWalk
import Derived.ProofKit
import Derived.OpenShut
import Derived.ChangeOld
import Derived.ChangeSame
import Derived.Carry
import Derived.Deep.Slices
import Derived.Laws.MakeOwn
import Derived.Test.YtmoafafalnbkpaaGreatDoorDefs
import Derived.Shelf.LaysM
import Derived.Shelf.Strconv.Itoa3
import Derived.Test.YtmoafafalnbkpaaGreatDoorProg
import Derived.Test.YtmoafafalnbkpaaGreatDoorShA
import Derived.Lib.ConvBytes
import Derived.Laws.BytesString
import Derived.Laws.Runes
import Derived.WalkSmall
import Derived.Test.YtmoafafalnbkpaaGreatDoorRows
import Derived.DataShut
import Derived.Lay
import Derived.MakeChecks
import Derived.LaidMore
import Derived.Stop.Joined
import Derived.Lib.LaidTab
import Derived.ChangeMaps5
import Derived.Laws.BitsAllLaws
import Derived.Lib.Builder
import Derived.Lib.UnsafeStr
import Derived.Laws.Externs
import Derived.Laws.BytesArg
set_option linter.unusedVariables false
namespace Go.Vc
open Go.RowKit
/-! ### Loops and joins -/
theorem loopP_rule {σ : Type} {body : (σ → World → Prop) → σ → World → Prop} {s0 : σ} {w0 : World} (Inv : σ → World → Prop) (μ : σ → Nat) (h0 : Inv s0 w0)
    (step : ∀ s w, Inv s w → ∀ I : σ → World → Prop, (∀ s' w', Inv s' w' → μ s' < μ s → I s' w') → body I s w) : loopP body s0 w0 := by
  intro I hI
  have key : ∀ n s w, μ s = n → Inv s w → I s w := by
    intro n
    induction n using Nat.strongRecOn with
    | _ n ih =>
      intro s w hn hs
      exact hI s w (step s w hs I fun s' w' h' hlt => ih (μ s') (hn ▸ hlt) s' w' rfl h')
  exact key _ _ _ rfl h0

theorem joinP_of {σ : Type} {K : σ → World → Prop} {body : (σ → World → Prop) → Prop} (h : ∀ J : σ → World → Prop, (∀ s w, K s w → J s w) → body J) : joinP K body := h

theorem cond_of {b : Bool} {X Y : Prop} (h1 : b = true → X) (h2 : b = false → Y) : cond b X Y := by
  cases b
  · exact h2 rfl
  · exact h1 rfl
theorem cond_t {b : Bool} {X Y : Prop} (h : b = true) (h1 : X) : cond b X Y := by subst h; exact h1
theorem cond_f {b : Bool} {X Y : Prop} (h : b = false) (h1 : Y) : cond b X Y := by subst h; exact h1

/-! ### Addresses -/
theorem add_add (a : Addr) (i j : Nat) : (a.add i).add j = a.add (i + j) := by
  unfold Addr.add
  by_cases hi : i = 0 <;> by_cases hj : j = 0 <;> simp [hi, hj, Nat.add_assoc]
@[simp] theorem add_zero (a : Addr) : a.add 0 = a := by simp [Addr.add]
@[simp] theorem block_add (a : Addr) (n : Nat) : (a.add n).block = a.block := by unfold Addr.add; split <;> rfl
theorem add_mk (b o n : Nat) : (⟨b, o, none⟩ : Addr).add n = ⟨b, o + n, none⟩ := by unfold Addr.add; split <;> simp_all

/-! ### Cells -/
theorem cellsAt.sub {w : World} {a : Addr} {vs us : List Value} (h : cellsAt w a vs) (i : Nat) (hu : ∀ (j : Nat) (v : Value), us[j]? = some v → vs[i + j]? = some v) : cellsAt w (a.add i) us := by
  intro j v hj
  rw [add_add]
  exact h _ _ (hu j v hj)
theorem cellsAt.lt {w : World} {a : Addr} {vs : List Value} (h : cellsAt w a vs) (hn : 0 < vs.length) : a.block < w.heap.size := by
  have := World.block_lt_of_cell? w (a.add 0) (h 0 vs[0] (by simp [hn]))
  simpa using this
/-- A block that is just these cells, none frozen. -/
def Blk (w : World) (g : Nat) (t : TypeId) (vs : List Value) : Prop := w.heap[g]? = some (.cells vs.toArray t (0, 0))
section
variable {w w' : World} {g : Nat} {t : TypeId} {vs : List Value}
theorem Blk.lt (h : Blk w g t vs) : g < w.heap.size := by
  rcases Nat.lt_or_ge g w.heap.size with hlt | hge
  · exact hlt
  · unfold Blk at h; rw [Array.getElem?_eq_none hge] at h; cases h
theorem Blk.new (w : World) (t : TypeId) (vs : List Value) : Blk (w.alloc (.cells vs.toArray t)) w.heap.size t vs := by
  show (w.heap.push _)[w.heap.size]? = _
  simp
theorem Blk.cells (h : Blk w g t vs) : cellsAt w ⟨g, 0, none⟩ vs := by
  intro i v hv
  unfold Blk at h
  rw [add_mk]
  simp [World.cell?, h, hv]
theorem Blk.cell (h : Blk w g t vs) (i : Nat) {v : Value} (hv : vs[i]? = some v) : w.cell? ⟨g, i, none⟩ = some v := by
  have := h.cells i v hv
  rwa [add_mk, Nat.zero_add] at this
theorem Blk.sub (h : Blk w g t vs) (i : Nat) (us : List Value) (hu : (vs.drop i).take us.length = us) : cellsAt w ((⟨g, 0, none⟩ : Addr).add i) us := by
  refine h.cells.sub i fun j v hj => ?_
  rw [← hu] at hj
  have hjl : j < us.length := by
    rcases Nat.lt_or_ge j us.length with h' | h'
    · exact h'
    · rw [List.getElem?_eq_none (by simp; omega)] at hj; cases hj
  rw [List.getElem?_take_of_lt hjl, List.getElem?_drop] at hj
  exact hj
theorem Blk.frozen (h : Blk w g t vs) (i : Nat) : w.frozen? ⟨g, i, none⟩ = false := by
  unfold Blk at h
  simp [World.frozen?, h]
theorem Blk.drew (h : Blk w g t vs) : Blk w.drew g t vs := h
theorem Blk.alloc (h : Blk w g t vs) (o : Obj) : Blk (w.alloc o) g t vs := (Below.heap_alloc w o g h.lt).trans h
theorem Blk.below {B : Nat} (h : Blk w g t vs) (hb : Below B w w') (hg : g < B) : Blk w' g t vs := (hb.block g hg).trans h
theorem Blk.ext (h : Blk w g t vs) (hb : Below w.heap.size w w') : Blk w' g t vs := h.below hb h.lt
theorem Blk.grown {row : Option Nat} (h : Blk w g t vs) (hb : w.grownBy w' row) (hg : some g ≠ row) : Blk w' g t vs := (hb.block g h.lt hg).trans h
theorem Blk.set_ (h : Blk w g t vs) (i : Nat) (u : Value) : Blk (w.setCell ⟨g, i, none⟩ u) g t (vs.set i u) := by
  unfold Blk at h ⊢
  simp [World.setCell, Array.getElem?_modify, h]
end
/-! ### Writing -/
def putL (vs : List Value) (i : Nat) (us : List Value) : List Value := match us with
  | [] => vs
  | u :: r => putL (vs.set i u) (i + 1) r

theorem wrFrom_blk {g o : Nat} {t : TypeId} : ∀ (us : List Value) (i : Nat) (w : World) (vs : List Value), Blk w g t vs → Blk (wrFrom w ⟨g, o, none⟩ i us) g t (putL vs (o + i) us) := by
  intro us
  induction us with
  | nil => intro i w vs h; exact h
  | cons u r ih =>
    intro i w vs h
    simp only [wrFrom, putL]
    rw [add_mk]
    have := ih (i + 1) _ _ (h.set_ (o + i) u)
    rwa [← Nat.add_assoc] at this
theorem wr_blk {w : World} {g o : Nat} {t : TypeId} {vs us : List Value} (h : Blk w g t vs) : Blk (wr w ⟨g, o, none⟩ us) g t (putL vs o us) := by
  have := wrFrom_blk (o := o) us 0 w vs h
  simpa [wr] using this

theorem wrFrom_heap {a : Addr} : ∀ (us : List Value) (i : Nat) (w : World), (wrFrom w a i us).heap.size = w.heap.size ∧ (∀ k, k ≠ a.block → (wrFrom w a i us).heap[k]? = w.heap[k]?) ∧ (wrFrom w a i us).tape = w.tape ∧ (wrFrom w a i us).os = w.os ∧ (wrFrom w a i us).output = w.output ∧ (wrFrom w a i us).drawn = w.drawn := by
  intro us
  induction us with
  | nil => intro i w; exact ⟨rfl, fun _ _ => rfl, rfl, rfl, rfl, rfl⟩
  | cons u r ih =>
    intro i w
    obtain ⟨h1, h2, h3, h4, h5, h6⟩ := ih (i + 1) (w.setCell (a.add i) u)
    refine ⟨by rw [wrFrom, h1]; simp, fun k hk => ?_, by rw [wrFrom, h3]; simp, by rw [wrFrom, h4]; rfl, by rw [wrFrom, h5]; rfl, by rw [wrFrom, h6]; simp⟩
    rw [wrFrom, h2 k hk]
    exact Below.heap_setCell _ _ _ _ (by simpa using hk)
@[simp] theorem size_wr (w : World) (a : Addr) (us : List Value) : (wr w a us).heap.size = w.heap.size := (wrFrom_heap us 0 w).1
theorem wr_grown (w : World) (a : Addr) (us : List Value) : w.grownBy (wr w a us) (some a.block) := by
  obtain ⟨h1, h2, h3, h4, h5, _⟩ := wrFrom_heap (a := a) us 0 w
  exact ⟨h4, h3, h5, by show _ ≤ (wrFrom w a 0 us).heap.size; omega, fun k _ hne => h2 k fun e => hne (by rw [e])⟩
theorem stOk_blk {w : World} {g o : Nat} {t : TypeId} {vs us : List Value} (h : Blk w g t vs) (hl : o + us.length ≤ vs.length) : stOk w ⟨g, o, none⟩ us := by
  intro i hi
  rw [add_mk]
  refine ⟨⟨vs[o + i], ?_⟩, h.frozen _⟩
  exact h.cell (o + i) (List.getElem?_eq_getElem (by omega))

/-- A store into a block that is known whole. -/
theorem stK_blk {w : World} {g o : Nat} {t : TypeId} {vs us : List Value} {K : World → Prop} (h : Blk w g t vs) (hl : o + us.length ≤ vs.length)
    (hK : ∀ w', Blk w' g t (putL vs o us) → w.grownBy w' (some g) → w'.heap.size = w.heap.size → K w') : stK ⟨g, o, none⟩ us w K :=
  ⟨stOk_blk h hl, hK _ (wr_blk h) (wr_grown w ⟨g, o, none⟩ us) (size_wr _ _ _)⟩

/-- A new block. -/
theorem nw_blk {t : TypeId} {vs : List Value} {w : World} {K : Addr → World → Prop} (hK : ∀ w', Blk w' w.heap.size t vs → Below w.heap.size w w' → w'.heap.size = w.heap.size + 1 → K ⟨w.heap.size, 0, none⟩ w') : nw t vs w K :=
  hK _ (Blk.new w t vs) ((Below.refl _ w).alloc (Nat.le_refl _) _) (by simp)

/-! ### Elements; slices that read as lists -/
structure El (T : Type) where
  cells : T → List Value
  t : TypeId
  k : Nat
  pos : 0 < k
  len : ∀ x, (cells x).length = k
  one : ∀ x, ∀ v ∈ cells x, v.oneCell' = true

def Slc.at_ (s : Slc) (k i : Nat) : Addr := (s.a.getD ⟨0, 0, none⟩).add (i * k)

/-- The slice reads as this list. -/
structure Rd {T : Type} (E : El T) (w : World) (s : Slc) (xs : List T) : Prop where
  n : s.n = xs.length
  nc : s.n ≤ s.c
  cm : s.c ≤ maxLen
  some_ : 0 < xs.length → s.a.isSome = true
  at_ : ∀ (i : Nat) x, xs[i]? = some x → cellsAt w (s.at_ E.k i) (E.cells x)

theorem Rd.nil {T : Type} (E : El T) (w : World) : Rd E w ⟨none, 0, 0⟩ [] := ⟨rfl, Nat.le_refl _, by simp [maxLen], fun h => by simp at h, fun i x h => by simp at h⟩
theorem Rd.lt {T : Type} {E : El T} {w : World} {s : Slc} {xs : List T} (h : Rd E w s xs) {i : Nat} (hi : i < xs.length) : (s.at_ E.k i).block < w.heap.size :=
  (h.at_ i xs[i] (by simp [hi])).lt (by rw [E.len]; exact E.pos)
theorem Rd.keep {T : Type} {E : El T} {w w' : World} {s : Slc} {xs : List T} (h : Rd E w s xs) (hk : ∀ (b : Nat), b < w.heap.size → (∀ a, s.a = some a → b = a.block) → w'.heap[b]? = w.heap[b]?) : Rd E w' s xs := by
  refine ⟨h.n, h.nc, h.cm, h.some_, fun i x hx => ?_⟩
  have hc := h.at_ i x hx
  intro j v hv
  have hcell := hc j v hv
  have hlt := World.block_lt_of_cell? w _ hcell
  rw [World.cell?_of_block (w := w) (hk _ hlt (fun a ha => by simp [Slc.at_, ha]))]
  exact hcell
theorem Rd.ext {T : Type} {E : El T} {w w' : World} {s : Slc} {xs : List T} (h : Rd E w s xs) (hb : Below w.heap.size w w') : Rd E w' s xs := h.keep fun b hlt _ => hb.block b hlt
theorem Rd.none_nil {T : Type} {E : El T} {w : World} {s : Slc} {xs : List T} (h : Rd E w s xs) (ha : s.a = none) : xs = [] := by
  cases xs with
  | nil => rfl
  | cons x r => have := h.some_ (by simp); rw [ha] at this; cases this
theorem Rd.drew {T : Type} {E : El T} {w : World} {s : Slc} {xs : List T} (h : Rd E w s xs) : Rd E w.drew s xs := h.keep fun _ _ _ => rfl

theorem ixK_at {s : Slc} {i : Int} {k : Nat} {K : Addr → Prop} (ha : s.a.isSome = true) (h0 : 0 ≤ i) (h1 : i < s.n) (h : K (s.at_ k i.toNat)) : ixK s i k K := by
  obtain ⟨a, e⟩ := Option.isSome_iff_exists.1 ha
  unfold ixK
  rw [e, onPtr_some]
  refine ⟨⟨h0, h1⟩, ?_⟩
  simpa [Slc.at_, e] using h

theorem Rd.ix {T : Type} {E : El T} {w : World} {s : Slc} {xs : List T} (h : Rd E w s xs) {i : Int} {k : Nat} (hk : k = E.k) {K : Addr → Prop} (h0 : 0 ≤ i) (h1 : i < xs.length)
    (hK : cellsAt w (s.at_ E.k i.toNat) (E.cells (xs[i.toNat]'(by omega))) → K (s.at_ E.k i.toNat)) : ixK s i k K := by
  subst hk
  refine ixK_at (h.some_ (by omega)) h0 (by rw [h.n]; exact h1) (hK (h.at_ _ _ ?_))
  simp

/-! ### Rows of a call's own -/
def flat {T : Type} (E : El T) (xs : List T) : List Value := xs.flatMap E.cells

theorem flat_length {T : Type} (E : El T) (xs : List T) : (flat E xs).length = xs.length * E.k := by
  unfold flat
  induction xs with
  | nil => simp
  | cons x r ih => simp [E.len, ih, Nat.add_mul, Nat.add_comm]
theorem flat_append {T : Type} (E : El T) (xs ys : List T) : flat E (xs ++ ys) = flat E xs ++ flat E ys := by simp [flat]
theorem flat_get {T : Type} (E : El T) : ∀ (xs : List T) (i : Nat) (x : T) (j : Nat) (v : Value), xs[i]? = some x → (E.cells x)[j]? = some v → (flat E xs)[i * E.k + j]? = some v := by
  intro xs
  induction xs with
  | nil => intro i x j v h; simp at h
  | cons y r ih =>
    intro i x j v h hv
    have hj : j < E.k := by rw [← E.len x]; exact (List.getElem?_eq_some_iff.1 hv).1
    have e : flat E (y :: r) = E.cells y ++ flat E r := by simp [flat]
    rw [e]
    cases i with
    | zero =>
      simp only [List.getElem?_cons_zero, Option.some.injEq] at h
      subst h
      rw [Nat.zero_mul, Nat.zero_add, List.getElem?_append_left (by rw [E.len]; exact hj)]
      exact hv
    | succ i =>
      simp only [List.getElem?_cons_succ] at h
      rw [List.getElem?_append_right (by rw [E.len, Nat.add_mul]; omega), E.len]
      have : (i + 1) * E.k + j - E.k = i * E.k + j := by rw [Nat.add_mul]; omega
      rw [this]
      exact ih i x j v h hv
theorem flat_one {T : Type} (E : El T) (xs : List T) : ∀ u ∈ flat E xs, u.oneCell' = true := by
  intro u hu
  obtain ⟨x, _, hx⟩ := List.mem_flatMap.1 hu
  exact E.one x u hx

def Slc.v (s : Slc) : Value := .slice s.a s.n s.c
def Slc.blk (s : Slc) : Option Nat := s.a.map (·.block)

/-- The slice is nil, or stands at the head of a row, from block 'base' on, that may be written; it reads as this list. -/
def Own {T : Type} (E : El T) (w : World) (base : Nat) (s : Slc) (xs : List T) : Prop := w.ownsRow base E.t E.k s.v xs.length (flat E xs)

theorem ownBlock_v (s : Slc) : s.v.ownBlock = s.blk := by
  unfold Slc.v Slc.blk
  cases s.a <;> rfl

theorem Own.form {T : Type} {E : El T} {w : World} {base : Nat} {s : Slc} {xs : List T} (h : Own E w base s xs) :
    (s = ⟨none, 0, 0⟩ ∧ xs = []) ∨ ∃ g cur, s = ⟨some ⟨g, 0, none⟩, xs.length, s.c⟩ ∧ base ≤ g ∧ Blk w g E.t cur ∧ xs.length ≤ s.c ∧ s.c ≤ maxLen ∧ cur.length = s.c * E.k ∧ cur.take (xs.length * E.k) = flat E xs := by
  obtain ⟨_, h⟩ := h
  obtain ⟨a, n, c⟩ := s
  rcases h with ⟨e, hn⟩ | ⟨g, cap, cur, e, hg, hh, h1, h2, h3, h4⟩
  · injection e with e1 e2 e3
    subst e1; subst e2; subst e3
    exact .inl ⟨rfl, List.eq_nil_of_length_eq_zero hn⟩
  · injection e with e1 e2 e3
    subst e1; subst e2; subst e3
    exact .inr ⟨g, cur.toList, rfl, hg, by unfold Blk; simpa using hh, h1, h2, by simpa using h3, h4⟩

theorem Own.of_blk {T : Type} {E : El T} {w : World} {base g c : Nat} {xs : List T} {cur : List Value} (hg : base ≤ g) (hb : Blk w g E.t cur) (h1 : xs.length ≤ c) (h2 : c ≤ maxLen) (h3 : cur.length = c * E.k) (h4 : cur.take (xs.length * E.k) = flat E xs) :
    Own E w base ⟨some ⟨g, 0, none⟩, xs.length, c⟩ xs :=
  ⟨flat_length E xs, .inr ⟨g, c, cur.toArray, rfl, hg, hb, h1, h2, by simpa using h3, by simpa using h4⟩⟩

theorem Own.nil {T : Type} (E : El T) (w : World) (base : Nat) : Own E w base ⟨none, 0, 0⟩ [] := World.ownsRow_nil w base E.t E.k

theorem Own.rd {T : Type} {E : El T} {w : World} {base : Nat} {s : Slc} {xs : List T} (h : Own E w base s xs) : Rd E w s xs := by
  rcases h.form with ⟨rfl, rfl⟩ | ⟨g, cur, hs, hg, hb, h1, h2, h3, h4⟩
  · exact Rd.nil E w
  · rw [hs]
    refine ⟨rfl, h1, h2, fun _ => rfl, fun i x hx => ?_⟩
    show cellsAt w ((⟨g, 0, none⟩ : Addr).add (i * E.k)) _
    refine hb.cells.sub _ fun j v hv => ?_
    have := flat_get E xs i x j v hx hv
    rw [← h4] at this
    rw [List.getElem?_take] at this
    split at this
    · exact this
    · cases this

theorem Own.base {T : Type} {E : El T} {w : World} {base base' : Nat} {s : Slc} {xs : List T} (h : Own E w base s xs) (hb : base' ≤ base) : Own E w base' s xs := by
  obtain ⟨h0, h⟩ := h
  refine ⟨h0, ?_⟩
  rcases h with h | ⟨g, cap, cur, e, hg, r⟩
  · exact .inl h
  · exact .inr ⟨g, cap, cur, e, by omega, r⟩
theorem Own.lt {T : Type} {E : El T} {w : World} {base : Nat} {s : Slc} {xs : List T} (h : Own E w base s xs) : ∀ k, s.blk = some k → base ≤ k ∧ k < w.heap.size := by
  rw [← ownBlock_v]; exact World.ownsRow.lt h
theorem Own.kept {T : Type} {E : El T} {w w' : World} {base : Nat} {s : Slc} {xs : List T} {row : Option Nat} (h : Own E w base s xs) (hg : w.grownBy w' row) (hne : s.blk = none ∨ s.blk ≠ row) : Own E w' base s xs :=
  World.ownsRow.kept h hg (by rw [ownBlock_v]; exact hne)
theorem Own.ext {T : Type} {E : El T} {w w' : World} {base : Nat} {s : Slc} {xs : List T} (h : Own E w base s xs) (hb : Below w.heap.size w w') : Own E w' base s xs := by
  obtain ⟨h0, h1⟩ := h
  refine ⟨h0, ?_⟩
  rcases h1 with h1 | ⟨g, cap, cur, e, hg, hh, r⟩
  · exact .inl h1
  · refine .inr ⟨g, cap, cur, e, hg, ?_, r⟩
    have : g < w.heap.size := by
      rcases Nat.lt_or_ge g w.heap.size with h' | h'
      · exact h'
      · rw [Array.getElem?_eq_none h'] at hh; cases hh
    rw [hb.block g this]; exact hh
theorem Own.drew {T : Type} {E : El T} {w : World} {base : Nat} {s : Slc} {xs : List T} (h : Own E w base s xs) : Own E w.drew base s xs := h

/-- What the program's tables say of a slice type over these elements. -/
structure SlT (P : Program) {T : Type} (E : El T) (st : TypeId) where
  ht : P.underlying st = some (.slice E.t)
  i : TypeInfo
  hi : P.info? E.t = some i
  z : Value
  hz : i.zero = some z
  hs : i.size = E.k
  hzs : z.cells.size = E.k

theorem run_append_nothing {P : Program} {T : Type} {E : El T} {st : TypeId} (TT : SlT P E st) (ty : TypeId) {w : World} {base : Nat} {s : Slc} {xs : List T} (hown : Own E w base s xs) (c : Nat) :
    (Builtin.append_ #[st, st] ty #[s.v, .slice none 0 c]).run P w = .ok s.v w := by
  rcases hown.form with ⟨rfl, rfl⟩ | ⟨g, cur, hs, hg, hb, h1, h2, h3, h4⟩
  · simp [Slc.v, Builtin.append_, run_underlying TT.ht, sizeOf, typeInfo, TT.hi, Builtin.lenOf, Builtin.firstCells]
  · rw [hs]
    simp [Slc.v, Builtin.append_, run_underlying TT.ht, sizeOf, typeInfo, TT.hi, Builtin.lenOf, Builtin.firstCells, h1, storeCells]

/-- append onto a row of the call's own. -/
theorem apK_own {P : Program} {T : Type} {E : El T} {st : TypeId} (TT : SlT P E st) {ty : TypeId} {w : World} {base : Nat} {s x : Slc} {xs ys : List T} {K : Slc → World → Prop} (hown : Own E w base s xs) (hx : Rd E w x ys)
    (hb : base ≤ w.heap.size) (hl : (xs.length + ys.length) * TT.i.bytes ≤ 140737488355328) (hm : xs.length + ys.length ≤ maxLen)
    (hK : ∀ r w', Own E w' base r (xs ++ ys) → w.grownBy w' s.blk → (r.blk = s.blk ∨ r.blk = some w.heap.size) → K r w') : apK P #[st, st] ty s x w K := by
  cases ha : x.a with
  | none =>
    have hy := hx.none_nil ha
    subst hy
    have hn : x.n = 0 := by simpa using hx.n
    refine ⟨s, w, ?_, hK s w (by simpa using hown) (World.grownBy.refl w _) (.inl rfl)⟩
    rw [ha, hn]
    exact run_append_nothing TT ty hown x.c
  | some a =>
    have hcells : ∀ (j : Nat) (u : Value), (flat E ys)[j]? = some u → w.cell? (a.add j) = some u := by
      intro j u hu
      have hj : j < ys.length * E.k := by rw [← flat_length]; exact (List.getElem?_eq_some_iff.1 hu).1
      have hk := E.pos
      have hq : j / E.k < ys.length := (Nat.div_lt_iff_lt_mul hk).2 hj
      have hr : j % E.k < E.k := Nat.mod_lt _ hk
      have hxi : ys[j / E.k]? = some ys[j / E.k] := by simp [hq]
      have hv : (E.cells ys[j / E.k])[j % E.k]? = some ((E.cells ys[j / E.k])[j % E.k]'(by rw [E.len]; exact hr)) := List.getElem?_eq_getElem _
      have e : j / E.k * E.k + j % E.k = j := by rw [Nat.mul_comm]; exact Nat.div_add_mod j E.k
      have h1 := flat_get E ys _ _ _ _ hxi hv
      rw [e, hu] at h1
      have h2 := hx.at_ _ _ hxi _ _ hv
      rw [← Option.some.inj h1] at h2
      simp only [Slc.at_, ha, Option.getD_some] at h2
      rwa [add_add, e] at h2
    obtain ⟨v', w', hrun, h2, h3, _, h5⟩ := run_append_own_at (P := P) w base st ty E.t TT.i TT.z E.k TT.i.bytes TT.ht TT.hi TT.hz TT.hs rfl TT.hzs E.pos s.v xs.length (flat E xs) hown a ys.length x.c (flat E ys) (flat_length E ys) hcells (flat_one E ys) hm hl hb
    have hv' : ∃ r : Slc, v' = r.v := by
      rcases h2.2 with ⟨e, _⟩ | ⟨g, cap, cur, e, _⟩
      · exact ⟨⟨none, 0, 0⟩, e⟩
      · exact ⟨⟨_, _, _⟩, e⟩
    obtain ⟨r, rfl⟩ := hv'
    refine ⟨r, w', ?_, hK r w' ?_ (by rw [← ownBlock_v]; exact h3) ?_⟩
    · rw [ha, hx.n]; exact hrun
    · unfold Own; rw [List.length_append, flat_append]; exact h2
    · rw [ownBlock_v, ownBlock_v] at h5; exact h5

theorem putL_length : ∀ (us vs : List Value) (i : Nat), (putL vs i us).length = vs.length := by
  intro us
  induction us with
  | nil => intro vs i; rfl
  | cons u r ih => intro vs i; rw [putL, ih]; simp

theorem putL_get : ∀ (us vs : List Value) (i m : Nat), i + us.length ≤ vs.length → (putL vs i us)[m]? = if i ≤ m ∧ m < i + us.length then us[m - i]? else vs[m]? := by
  intro us
  induction us with
  | nil => intro vs i m _; simp only [putL, List.length_nil, Nat.add_zero]; rw [if_neg (by omega)]
  | cons u r ih =>
    intro vs i m hl
    simp only [List.length_cons] at hl
    rw [putL, ih (vs.set i u) (i + 1) m (by simp; omega)]
    by_cases h1 : i + 1 ≤ m ∧ m < i + 1 + r.length
    · rw [if_pos h1, if_pos (by simp; omega)]
      have : m - i = (m - (i + 1)) + 1 := by omega
      rw [this, List.getElem?_cons_succ]
    · rw [if_neg h1]
      by_cases h2 : m = i
      · subst h2
        rw [if_pos (by simp), List.getElem?_set_self (by omega), Nat.sub_self, List.getElem?_cons_zero]
      · rw [List.getElem?_set_ne (Ne.symm h2), if_neg (by simp; omega)]

theorem flat_set {T : Type} {E : El T} {xs : List T} {i : Nat} {x y : T} (hx : xs[i]? = some x) {j : Nat} {us cur : List Value} (hj : j + us.length ≤ E.k) (hy : E.cells y = putL (E.cells x) j us)
    (hc : cur.take (xs.length * E.k) = flat E xs) (hl : xs.length * E.k ≤ cur.length) : (putL cur (i * E.k + j) us).take (xs.length * E.k) = flat E (xs.set i y) := by
  have hi : i < xs.length := (List.getElem?_eq_some_iff.1 hx).1
  have hik : i * E.k + E.k ≤ xs.length * E.k := by
    have := Nat.mul_le_mul_right E.k (show i + 1 ≤ xs.length from hi)
    rw [Nat.add_mul, Nat.one_mul] at this
    exact this
  refine List.ext_getElem? fun m => ?_
  by_cases hm : m < xs.length * E.k
  · rw [List.getElem?_take_of_lt hm, putL_get us cur _ _ (by omega)]
    have hq : m / E.k < xs.length := (Nat.div_lt_iff_lt_mul E.pos).2 hm
    have hr : m % E.k < E.k := Nat.mod_lt _ E.pos
    have e : m / E.k * E.k + m % E.k = m := by rw [Nat.mul_comm]; exact Nat.div_add_mod m E.k
    have hcur : cur[m]? = (flat E xs)[m]? := by rw [← hc, List.getElem?_take_of_lt hm]
    have key : ∀ (zs : List T) (z : T), zs[m / E.k]? = some z → (flat E zs)[m]? = (E.cells z)[m % E.k]? := by
      intro zs z hz
      have hv : (E.cells z)[m % E.k]? = some ((E.cells z)[m % E.k]'(by rw [E.len]; exact hr)) := List.getElem?_eq_getElem _
      have := flat_get E zs _ _ _ _ hz hv
      rw [e] at this
      rw [this, hv]
    by_cases hqi : m / E.k = i
    · have hy' : (xs.set i y)[m / E.k]? = some y := by rw [hqi, List.getElem?_set_self hi]
      rw [key _ _ hy', hy, putL_get us (E.cells x) j _ (by rw [E.len]; exact hj)]
      have hx' : xs[m / E.k]? = some x := by rw [hqi]; exact hx
      rw [hcur, key _ _ hx']
      have e2 : m = i * E.k + m % E.k := by rw [← hqi]; exact e.symm
      generalize m % E.k = r at *
      subst e2
      by_cases hcase : j ≤ r ∧ r < j + us.length
      · rw [if_pos (by omega), if_pos hcase]
        congr 1
        omega
      · rw [if_neg (by omega), if_neg hcase]
    · have hne : (xs.set i y)[m / E.k]? = xs[m / E.k]? := List.getElem?_set_ne (Ne.symm hqi)
      have hx' : xs[m / E.k]? = some xs[m / E.k] := by simp [hq]
      rw [key _ _ (hne.trans hx'), hcur, key _ _ hx', if_neg]
      rintro ⟨h1, h2⟩
      refine hqi (Nat.le_antisymm ?_ ?_)
      · refine Nat.le_of_lt_succ ((Nat.div_lt_iff_lt_mul E.pos).2 ?_)
        rw [Nat.succ_mul]; omega
      · exact (Nat.le_div_iff_mul_le E.pos).2 (by omega)
  · rw [List.getElem?_eq_none (by simp; omega), List.getElem?_eq_none (by rw [flat_length]; simp; omega)]

/-- A store into an element of a row of the call's own (of the whole element, or of a part of it). -/
theorem Own.st {T : Type} {E : El T} {w : World} {base : Nat} {s : Slc} {xs : List T} (h : Own E w base s xs) {i : Nat} {x y : T} (hx : xs[i]? = some x) {j : Nat} {us : List Value} (hj : j + us.length ≤ E.k)
    (hy : E.cells y = putL (E.cells x) j us) {K : World → Prop} (hK : ∀ w', Own E w' base s (xs.set i y) → w.grownBy w' s.blk → w'.heap.size = w.heap.size → K w') : stK ((s.at_ E.k i).add j) us w K := by
  rcases h.form with ⟨rfl, rfl⟩ | ⟨g, cur, hs, hg, hb, h1, h2, h3, h4⟩
  · simp at hx
  · have hi : i < xs.length := (List.getElem?_eq_some_iff.1 hx).1
    have hik : i * E.k + E.k ≤ xs.length * E.k := by
      have := Nat.mul_le_mul_right E.k (show i + 1 ≤ xs.length from hi)
      rw [Nat.add_mul, Nat.one_mul] at this
      exact this
    have hcap : xs.length * E.k ≤ s.c * E.k := Nat.mul_le_mul_right _ h1
    have ha : (s.at_ E.k i).add j = ⟨g, i * E.k + j, none⟩ := by
      rw [hs]; show ((⟨g, 0, none⟩ : Addr).add (i * E.k)).add j = _
      rw [add_add, add_mk, Nat.zero_add]
    rw [ha]
    refine stK_blk hb (by omega) fun w' hb' hg' hsz => hK w' ?_ ?_ hsz
    · have := Own.of_blk (E := E) (xs := xs.set i y) (c := s.c) hg hb' (by simpa using h1) h2 (by rw [putL_length]; exact h3) (by rw [List.length_set]; exact flat_set hx hj hy h4 (by omega))
      rw [hs]
      simpa using this
    · rw [hs]; exact hg'
theorem Own.st0 {T : Type} {E : El T} {w : World} {base : Nat} {s : Slc} {xs : List T} (h : Own E w base s xs) {i : Nat} {x y : T} (hx : xs[i]? = some x) {us : List Value} (hy : E.cells y = us)
    {K : World → Prop} (hK : ∀ w', Own E w' base s (xs.set i y) → w.grownBy w' s.blk → w'.heap.size = w.heap.size → K w') : stK (s.at_ E.k i) us w K := by
  have hl : us.length = E.k := by rw [← hy, E.len]
  have hy' : E.cells y = putL (E.cells x) 0 us := by
    refine List.ext_getElem? fun m => ?_
    rw [putL_get us _ 0 m (by rw [E.len]; omega), hy]
    by_cases hm : m < us.length
    · rw [if_pos (by omega)]; rfl
    · rw [if_neg (by omega), List.getElem?_eq_none (by omega), List.getElem?_eq_none (by rw [E.len]; omega)]
  have := h.st hx (j := 0) (by omega) hy' hK
  rwa [add_zero] at this

/-- A row of one element that was laid for an append. -/
theorem rd_one {T : Type} {E : El T} {w : World} {g : Nat} {y : T} {vs : List Value} (hb : Blk w g E.t vs) (hy : E.cells y = vs) : Rd E w ⟨some ⟨g, 0, none⟩, 1, 1⟩ [y] := by
  refine ⟨rfl, Nat.le_refl _, by simp [maxLen], fun _ => rfl, fun i x hx => ?_⟩
  cases i with
  | zero =>
    simp only [List.getElem?_cons_zero, Option.some.injEq] at hx
    subst hx
    show cellsAt w ((⟨g, 0, none⟩ : Addr).add (0 * E.k)) _
    rw [Nat.zero_mul, add_zero, hy]
    exact hb.cells
  | succ i => simp at hx
/-- The empty row that 'append([]T{}, ..)' lays. -/
theorem own_empty {T : Type} {E : El T} {w : World} {g base : Nat} (hb : Blk w g E.t []) (hg : base ≤ g) : Own E w base ⟨some ⟨g, 0, none⟩, 0, 0⟩ [] :=
  Own.of_blk (E := E) (xs := []) (c := 0) hg hb (Nat.le_refl _) (by simp [maxLen]) (by simp) (by simp [flat])

/-! ### The words, as rules -/
theorem ldI_of {k : IntKind} {a : Addr} {w : World} {K : Int → Prop} {x : Int} (h : w.cell? a = some (.int k x)) (hK : K x) : ldI k a w K := ⟨x, h, hK⟩
theorem ldB_of {a : Addr} {w : World} {K : Bool → Prop} {x : Bool} (h : w.cell? a = some (.bool x)) (hK : K x) : ldB a w K := ⟨x, h, hK⟩
theorem ldStr_of {a : Addr} {w : World} {K : ByteArray → Prop} {x : ByteArray} (h : w.cell? a = some (.string x)) (hK : K x) : ldStr a w K := ⟨x, h, hK⟩
theorem ldP_of {a : Addr} {w : World} {K : Option Addr → Prop} {x : Option Addr} (h : w.cell? a = some (.pointer x)) (hK : K x) : ldP a w K := ⟨x, h, hK⟩
theorem ldSl_of {a : Addr} {w : World} {K : Slc → Prop} {x : Slc} (h : w.cell? a = some (.slice x.a x.n x.c)) (hK : K x) : ldSl a w K := ⟨x, h, hK⟩
theorem ldM_of {a : Addr} {w : World} {K : Option Nat → Prop} {x : Option Nat} (h : w.cell? a = some (.map x)) (hK : K x) : ldM a w K := ⟨x, h, hK⟩
theorem ldS_of {r : Rep} {a : Addr} {w : World} {K : r.T → Prop} {x : r.T} (h : cellsAt w a (r.cells x)) (hK : K x) : ldS r a w K := ⟨x, h, hK⟩

/-- A variable of its own, laid and filled. -/
theorem box_of {t : TypeId} {zs vs : List Value} {w : World} {K : Addr → World → Prop} (hl : zs.length = vs.length)
    (hK : ∀ w', Blk w' w.heap.size t vs → Below w.heap.size w w' → w'.heap.size = w.heap.size + 1 → K ⟨w.heap.size, 0, none⟩ w') : nw t zs w fun c w3 => stK c vs w3 fun w4 => K c w4 := by
  refine nw_blk fun w1 hb1 hB1 hs1 => ?_
  refine stK_blk hb1 (by omega) fun w2 hb2 hg2 hs2 => hK w2 ?_ ?_ (by omega)
  · have e : putL zs 0 vs = vs := by
      refine List.ext_getElem? fun m => ?_
      rw [putL_get vs zs 0 m (by omega)]
      by_cases hm : m < vs.length
      · rw [if_pos (by omega)]; rfl
      · rw [if_neg (by omega), List.getElem?_eq_none (by omega), List.getElem?_eq_none (by omega)]
    rw [e] at hb2
    exact hb2
  · exact hB1.grown hg2 (by omega) fun k hk => by cases hk; exact Nat.le_refl _

/-! ### A list that is being turned into another, from its front -/
def mix {α : Type} (ys xs : List α) (k : Nat) : List α := ys.take k ++ xs.drop k
theorem mix_zero {α : Type} (ys xs : List α) : mix ys xs 0 = xs := by simp [mix]
theorem mix_all {α : Type} {ys xs : List α} (h : ys.length = xs.length) : mix ys xs xs.length = ys := by simp [mix, ← h]
theorem mix_length {α : Type} {ys xs : List α} (h : ys.length = xs.length) (k : Nat) : (mix ys xs k).length = xs.length := by simp [mix]; omega
theorem mix_get {α : Type} {ys xs : List α} (h : ys.length = xs.length) {k : Nat} (hk : k < xs.length) (i : Nat) : (mix ys xs k)[i]? = if i < k then ys[i]? else xs[i]? := by
  unfold mix
  have hl : (ys.take k).length = k := by simp; omega
  by_cases hi : i < k
  · rw [List.getElem?_append_left (by omega), List.getElem?_take_of_lt hi, if_pos hi]
  · rw [List.getElem?_append_right (by omega), hl, List.getElem?_drop, if_neg hi]
    congr 1
    omega
theorem mix_set {α : Type} {ys xs : List α} (h : ys.length = xs.length) {k : Nat} (hk : k < xs.length) {y : α} (hy : ys[k]? = some y) : (mix ys xs k).set k y = mix ys xs (k + 1) := by
  unfold mix
  have hl : (ys.take k).length = k := by simp; omega
  have hy' : ys[k]'(by omega) = y := by
    rw [List.getElem?_eq_getElem (by omega)] at hy
    exact Option.some.inj hy
  rw [List.set_append_right _ _ (by omega), hl, Nat.sub_self, List.drop_eq_getElem_cons hk, List.set_cons_zero, List.take_succ_eq_append_getElem (by omega), hy']
  simp
theorem mix_same {α : Type} {ys xs : List α} (h : ys.length = xs.length) {k : Nat} (hk : k < xs.length) (he : ys[k]? = xs[k]?) : mix ys xs k = mix ys xs (k + 1) := by
  have hy : ys[k]? = some (ys[k]'(by omega)) := List.getElem?_eq_getElem _
  rw [← mix_set h hk hy]
  refine (List.ext_getElem? fun i => ?_)
  by_cases hi : i = k
  · subst hi
    rw [List.getElem?_set_self (by rw [mix_length h]; exact hk), mix_get h hk, if_neg (by omega), ← he, hy]
  · rw [List.getElem?_set_ne (Ne.symm hi)]

/-! ### What may have turned -/
/-- Of the blocks that were there those outside S are as they were. -/
structure Chg (S : Nat → Prop) (w w' : World) : Prop where
  os : w'.os = w.os
  tape : w'.tape = w.tape
  output : w'.output = w.output
  size : w.heap.size ≤ w'.heap.size
  block : ∀ k, k < w.heap.size → ¬ S k → w'.heap[k]? = w.heap[k]?
theorem Chg.refl (S : Nat → Prop) (w : World) : Chg S w w := ⟨rfl, rfl, rfl, Nat.le_refl _, fun _ _ _ => rfl⟩
theorem Chg.trans {S S' : Nat → Prop} {a b c : World} (h : Chg S a b) (k : Chg S' b c) (hs : ∀ i, i < a.heap.size → S' i → S i) : Chg S a c :=
  ⟨k.os.trans h.os, k.tape.trans h.tape, k.output.trans h.output, Nat.le_trans h.size k.size, fun i hi hn => (k.block i (Nat.lt_of_lt_of_le hi h.size) (fun e => hn (hs i hi e))).trans (h.block i hi hn)⟩
theorem Chg.mono {S S' : Nat → Prop} {a b : World} (h : Chg S a b) (hs : ∀ i, i < a.heap.size → S i → S' i) : Chg S' a b :=
  ⟨h.os, h.tape, h.output, h.size, fun i hi hn => h.block i hi fun e => hn (hs i hi e)⟩
theorem Chg.below {S : Nat → Prop} {B : Nat} {a b : World} (h : Chg S a b) (hB : B ≤ a.heap.size) (hs : ∀ i, i < B → ¬ S i) : Below B a b :=
  ⟨h.os, h.tape, h.output, h.size, fun k hk => h.block k (by omega) (hs k hk)⟩
theorem Chg.of_ext {S : Nat → Prop} {a b : World} (h : Below a.heap.size a b) : Chg S a b := ⟨h.os, h.tape, h.output, h.size, fun k hk _ => h.block k hk⟩
theorem Chg.of_grown {S : Nat → Prop} {a b : World} {row : Option Nat} (h : a.grownBy b row) (hs : ∀ k, row = some k → S k) : Chg S a b :=
  ⟨h.os, h.tape, h.output, h.size, fun k hk hn => h.block k hk fun e => hn (hs k e.symm)⟩
theorem Blk.chg {S : Nat → Prop} {w w' : World} {g : Nat} {t : TypeId} {vs : List Value} (h : Blk w g t vs) (hc : Chg S w w') (hg : ¬ S g) : Blk w' g t vs := (hc.block g h.lt hg).trans h
theorem Own.chg {T : Type} {E : El T} {S : Nat → Prop} {w w' : World} {base : Nat} {s : Slc} {xs : List T} (h : Own E w base s xs) (hc : Chg S w w') (hg : ∀ g, s.blk = some g → ¬ S g) : Own E w' base s xs := by
  rcases h.form with ⟨rfl, rfl⟩ | ⟨g, cur, hs, hb, hblk, h1, h2, h3, h4⟩
  · exact Own.nil _ _ _
  · rw [hs]
    exact Own.of_blk hb (hblk.chg hc (hg g (by rw [hs]; rfl))) h1 h2 h3 h4
theorem Rd.chg {T : Type} {E : El T} {S : Nat → Prop} {w w' : World} {s : Slc} {xs : List T} (h : Rd E w s xs) (hc : Chg S w w') (hg : ∀ a, s.a = some a → ¬ S a.block) : Rd E w' s xs := by
  refine ⟨h.n, h.nc, h.cm, h.some_, fun i x hx => ?_⟩
  have hi : i < xs.length := (List.getElem?_eq_some_iff.1 hx).1
  obtain ⟨a, ha⟩ := Option.isSome_iff_exists.1 (h.some_ (by omega))
  have hcell := h.at_ i x hx
  intro j v hv
  have hc1 := hcell j v hv
  have hlt := World.block_lt_of_cell? w _ hc1
  rw [World.cell?_of_block (w := w) (hc.block _ hlt (by simpa [Slc.at_, ha] using hg a ha))]
  exact hc1
/-- Rows and blocks of other element types are apart. -/
theorem Own.blk_t {T : Type} {E : El T} {w : World} {base : Nat} {s : Slc} {xs : List T} (h : Own E w base s xs) {g : Nat} (hg : s.blk = some g) : ∃ cs, Blk w g E.t cs := by
  rcases h.form with ⟨rfl, rfl⟩ | ⟨g', cur, hs, hb, hblk, h1, h2, h3, h4⟩
  · cases hg
  · rw [hs] at hg
    cases hg
    exact ⟨_, hblk⟩
theorem Blk.ne_t {w : World} {g g' : Nat} {t t' : TypeId} {cs cs' : List Value} (h : Blk w g t cs) (h' : Blk w g' t' cs') (hne : t ≠ t') : g ≠ g' := by
  rintro rfl
  unfold Blk at h h'
  rw [h] at h'
  injection h' with h'
  injection h' with _ ht
  exact hne ht

/-! ### Bytes -/
def u8 (x : Int) : UInt8 := UInt8.ofNat x.toNat
theorem u8_toNat {x : Int} (h0 : 0 ≤ x) (h1 : x < 256) : ((u8 x).toNat : Int) = x := by
  unfold u8
  rw [UInt8.toNat_ofNat']
  omega
/-! ### Numbers -/
theorem wrap64_id {x : Int} (h : -9223372036854775808 ≤ x ∧ x ≤ 9223372036854775807) : IntKind.i64.wrap x = x := by
  have := IntWalk.i64_in x h
  exact this

end Go.Vc

namespace Go.Vc
open Go.RowKit
theorem bnd_none {y d : Nat} {K : Nat → Prop} (h : K d) : bnd none y d K := h
theorem bnd_some {i : Int} {y d : Nat} {K : Nat → Prop} (h0 : 0 ≤ i) (h1 : i ≤ y) (h : K i.toNat) : bnd (some i) y d K := ⟨⟨h0, h1⟩, h⟩

/-- A part of a slice that reads as a list. -/
theorem Rd.part {T : Type} {E : El T} {w : World} {s : Slc} {xs : List T} (h : Rd E w s xs) {l m : Nat} (hl : l ≤ m) (hm : m ≤ xs.length) :
    Rd E w ⟨cut s.a l s.c E.k, m - l, s.c - l⟩ ((xs.take m).drop l) := by
  have hn := h.n
  have hnc := h.nc
  have hcm := h.cm
  have hlen : ((xs.take m).drop l).length = m - l := by simp; omega
  refine ⟨hlen.symm, by show m - l ≤ s.c - l; omega, by show s.c - l ≤ maxLen; omega, fun hp => ?_, fun i x hx => ?_⟩
  · rw [hlen] at hp
    obtain ⟨a, ha⟩ := Option.isSome_iff_exists.1 (h.some_ (by omega))
    show (cut s.a l s.c E.k).isSome = true
    unfold cut
    rw [ha]
    split <;> rfl
  · have hi : i < m - l := by rw [← hlen]; exact (List.getElem?_eq_some_iff.1 hx).1
    rw [List.getElem?_drop, List.getElem?_take_of_lt (by omega)] at hx
    have hc := h.at_ _ _ hx
    obtain ⟨a, ha⟩ := Option.isSome_iff_exists.1 (h.some_ (by omega))
    have e : (⟨cut s.a l s.c E.k, m - l, s.c - l⟩ : Slc).at_ E.k i = s.at_ E.k (l + i) := by
      unfold Slc.at_ cut
      rw [ha, if_neg (by omega)]
      simp only [Option.map_some, Option.getD_some]
      rw [add_add, Nat.add_mul]
    rw [e]
    exact hc

/-- s[l:h] of a slice that reads as a list. -/
theorem Rd.slK {T : Type} {E : El T} {w : World} {s : Slc} {xs : List T} (h : Rd E w s xs) {lo hi : Option Int} {k : Nat} (hk : k = E.k) {l m : Nat} {K : Slc → Prop} (hlo : lo = none ∧ l = 0 ∨ lo = some (l : Int)) (hhi : hi = none ∧ m = xs.length ∨ hi = some (m : Int))
    (hl : l ≤ m) (hm : m ≤ xs.length) (hK : Rd E w ⟨cut s.a l s.c E.k, m - l, s.c - l⟩ ((xs.take m).drop l) → K ⟨cut s.a l s.c E.k, m - l, s.c - l⟩) : slK s lo hi k K := by
  subst hk
  have hn := h.n
  have hnc := h.nc
  have key : K ⟨cut s.a l s.c E.k, m - l, s.c - l⟩ := hK (h.part hl hm)
  unfold Vc.slK
  have inner : bnd lo m 0 fun l' => K ⟨cut s.a l' s.c E.k, m - l', s.c - l'⟩ := by
    rcases hlo with ⟨rfl, rfl⟩ | rfl
    · exact bnd_none key
    · exact bnd_some (by omega) (by omega) (by simpa using key)
  rcases hhi with ⟨rfl, rfl⟩ | rfl
  · refine bnd_none ?_
    rw [hn]
    exact inner
  · exact bnd_some (by omega) (by omega) (by simpa using inner)

/-! ### append(nil, make([]T, n)...) -/
theorem run_append_make {P : Program} {T : Type} {E : El T} {st it : TypeId} {kk : IntKind} (TT : SlT P E st) (ty : TypeId) (hit : P.underlying it = some (.int kk)) (w : World) (n : Nat) (h0 : 0 < n) (h63 : n ≤ maxLen) (h48 : n * TT.i.bytes ≤ 140737488355328) :
    (Builtin.append_ #[st, it] ty #[.slice none 0 0, .int .i64 n]).run P w =
      .ok (.slice (some ⟨w.heap.size, 0, none⟩) n (grownCap w n 0 E.t)) (w.drew.alloc (.cells (Builtin.zeroCells TT.z.cells n ++ Builtin.zeroCells TT.z.cells (grownCap w n 0 E.t - n)) E.t)) := by
  have hn : n ≠ 0 := by omega
  have hw : IntKind.i64.wrap (n : Int) = n := wrap64_id (by simp only [maxLen] at h63; omega)
  have hb : ¬ (281474976710656 < (n : Int) * (TT.i.bytes : Int)) := by
    rw [show (n : Int) * (TT.i.bytes : Int) = ((n * TT.i.bytes : Nat) : Int) by simp]
    omega
  have h63' : ¬ (9223372036854775807 < (n : Int)) := by simp only [maxLen] at h63; omega
  have h48' : ¬ (281474976710656 < Builtin.nextslicecap n 0 * TT.i.bytes) := by rw [nextslicecap_zero h0]; omega
  have hk := E.pos
  have hs : ¬ (TT.i.size = 0) := by rw [TT.hs]; omega
  have hneg : ¬ ((n : Int) < 0) := by omega
  have hai : (asIntOf (.int .i64 (n : Int))).run P w = .ok (.i64, (n : Int)) w := rfl
  simp [Builtin.append_, run_underlying TT.ht, run_underlying hit, sizeOf, typeInfo, zeroValue, TT.hi, TT.hz, asInt, hai, hw, hb, hn, h63', h48', hneg, Question.forced, run_firstCells_none, newRow, grownCap]
  intro e
  have : 0 < n * TT.i.size := Nat.mul_pos h0 (by omega)
  omega

theorem apM_nil {P : Program} {T : Type} {E : El T} {st it : TypeId} {kk : IntKind} (TT : SlT P E st) {ty : TypeId} (hit : P.underlying it = some (.int kk)) {w : World} {n : Nat} {m : Int} {K : Slc → World → Prop} (hm : m = n) (h0 : 0 < n) (h63 : n ≤ maxLen) (h48 : n * TT.i.bytes ≤ 140737488355328)
    (hK : ∀ cap w', n ≤ cap → cap ≤ maxLen → Own E w' w.heap.size ⟨some ⟨w.heap.size, 0, none⟩, 0, cap⟩ [] → Below w.heap.size w w' → K ⟨some ⟨w.heap.size, 0, none⟩, n, cap⟩ w') : apM P #[st, it] ty ⟨none, 0, 0⟩ m .i64 w K := by
  subst hm
  refine ⟨⟨some ⟨w.heap.size, 0, none⟩, n, grownCap w n 0 E.t⟩, _, run_append_make TT ty hit w n h0 h63 h48, hK _ _ (grownCap_ge w n 0 E.t) (grownCap_le_maxLen w n 0 E.t h63) ?_ ?_⟩
  · have hge := grownCap_ge w n 0 E.t
    generalize hA : Builtin.zeroCells TT.z.cells n ++ Builtin.zeroCells TT.z.cells (grownCap w n 0 E.t - n) = A
    have hsz : A.size = grownCap w n 0 E.t * E.k := by
      rw [← hA]
      simp only [Array.size_append, size_zeroCells, TT.hzs, ← Nat.add_mul]
      congr 1
      omega
    refine Own.of_blk (E := E) (xs := []) (cur := A.toList) (Nat.le_refl _) ?_ (Nat.zero_le _) (grownCap_le_maxLen w n 0 E.t h63) ?_ (by simp [flat])
    · have := Blk.new w.drew E.t A.toList
      rwa [Array.toArray_toList] at this
    · rw [Array.length_toList]; exact hsz
  · exact (Below.refl _ w).drew.alloc (Nat.le_refl _) _

end Go.Vc

namespace Go.Vc
open Go.ChangeShapes Go.WideShapes Go.ChangeAt Go.RowKit Go.Deep
/-! ### Types that are numbers, bools and strings all through -/
inductive Leaf where
  | int (k : IntKind)
  | bool
  | str
def Leaf.ok : Leaf → Value → Prop
  | .int k, v => ∃ z, v = .int k z ∧ (Lit.int k z).wf = true
  | .bool, v => ∃ b, v = .bool b
  | .str, v => ∃ s, v = .string s
def goF (P : Program) (g : TypeId → Option (List Leaf)) : List Field → Nat → Option (List Leaf)
  | [], _ => some []
  | f :: r, off =>
    match g f.type with
    | some ls => if f.offset = off ∧ P.cellsOf f.type = ls.length then (goF P g r (off + ls.length)).map (ls ++ ·) else none
    | none => none
def leavesL (P : Program) : Nat → TypeId → Option (List Leaf)
  | 0, _ => none
  | n + 1, t =>
    match P.underlying t with
    | some (.int k) => some [.int k]
    | some .bool => some [.bool]
    | some .string => some [.str]
    | some (.struct fs) => goF P (leavesL P n) fs.toList 0
    | _ => none

/-- The cells are as the leaves say. -/
def LeafFit (ls : List Leaf) (cs : List Value) : Prop := ∀ (j : Nat) l, ls[j]? = some l → ∃ v, cs[j]? = some v ∧ l.ok v

theorem goF_fits {P : Program} {g : TypeId → Option (List Leaf)} {cs : List Value} : ∀ (fs : List Field) (off : Nat) (ls : List Leaf), goF P g fs off = some ls →
    (∀ f ∈ fs, ∀ lf, g f.type = some lf → P.cellsOf f.type = lf.length → LeafFit lf ((cs.drop f.offset).take (P.cellsOf f.type))) → ∀ (j : Nat) l, ls[j]? = some l → ∃ v, cs[off + j]? = some v ∧ l.ok v
  | [], _, ls, h, _, j, l, hl => by
    simp only [goF, Option.some.injEq] at h
    subst h
    simp at hl
  | f :: r, off, ls, h, hf, j, l, hl => by
    unfold goF at h
    split at h
    · rename_i lf hg
      split at h
      · rename_i hc
        obtain ⟨rest, hr, e⟩ := Option.map_eq_some_iff.1 h
        subst e
        rcases Nat.lt_or_ge j lf.length with hj | hj
        · rw [List.getElem?_append_left hj] at hl
          obtain ⟨v, hv, ok⟩ := hf f (by simp) lf hg hc.2 j l hl
          rw [hc.2, List.getElem?_take_of_lt hj, List.getElem?_drop, hc.1] at hv
          exact ⟨v, hv, ok⟩
        · rw [List.getElem?_append_right hj] at hl
          obtain ⟨v, hv, ok⟩ := goF_fits r (off + lf.length) rest hr (fun f' hf' => hf f' (by simp [hf'])) _ l hl
          exact ⟨v, by rw [← hv]; congr 1; omega, ok⟩
      · cases h
    · cases h

section
variable {H : Type} {enc : TypeId × Value → H} {P : Program} {w : World} {base : Nat} {spare : Nat → Bool} {held : Bool}
theorem trod_fits : ∀ (n : Nat) {t : TypeId} {ls : List Leaf} {fuel : Nat} {cs : List Value} {x : DataW H × List MemPlace}, leavesL P n t = some ls → DataW.trod enc P w base spare held fuel t cs = some x → LeafFit ls cs
  | 0, _, _, _, _, _, h, _ => by cases h
  | n + 1, t, ls, fuel, cs, x, h, ht => by
    unfold leavesL at h
    split at h
    · next k hu =>
      cases h
      obtain ⟨z, rfl, _, hw⟩ := DataW.trod_int hu ht
      intro j l hl
      match j, hl with
      | 0, hl => cases hl; exact ⟨_, rfl, z, rfl, hw⟩
      | j + 1, hl => cases hl
    · next hu =>
      cases h
      obtain ⟨z, rfl, _⟩ := DataW.trod_bool hu ht
      intro j l hl
      match j, hl with
      | 0, hl => cases hl; exact ⟨_, rfl, z, rfl⟩
      | j + 1, hl => cases hl
    · next hu =>
      cases h
      obtain ⟨z, rfl, _⟩ := DataW.trod_string hu ht
      intro j l hl
      match j, hl with
      | 0, hl => cases hl; exact ⟨_, rfl, z, rfl⟩
      | j + 1, hl => cases hl
    · next fs hu =>
      obtain ⟨xs, m, _, _, _, hxl, hf⟩ := DataW.trod_struct hu ht
      intro j l hl
      have := goF_fits (cs := cs) fs.toList 0 ls h (fun f hfm lf hg _ => by
        obtain ⟨i, hi⟩ := List.getElem?_of_mem hfm
        rw [Array.getElem?_toList] at hi
        have h1 := hf i f hi
        have hil : i < xs.length := by rw [hxl]; exact (Array.getElem?_eq_some_iff.1 hi).1
        rw [List.getElem?_eq_getElem hil] at h1
        exact trod_fits n hg h1) j l hl
      simpa using this
    · cases h

/-- An argument that is a struct of such leaves, by value. -/
theorem agg_of_trod {T : Type} (E : El T) (Q : T → Prop) {r : Reach} {b0 n : Nat} {t : TypeId} {fs : Array Field} {ls : List Leaf} {v : Value} {d : DataW H} {p : List MemPlace} (ht : P.underlying t = some (.struct fs)) (hC : P.cellsOf t = E.k) (hls : leavesL P n t = some ls)
    (mk : ∀ vs : List Value, vs.length = E.k → LeafFit ls vs → ∃ x : T, E.cells x = vs ∧ Q x) (hv : Value.okWide P w r b0 t v) (h : DataW.Trod enc P w base spare held t v d p) : ∃ x : T, v = .agg (E.cells x).toArray ∧ Q x := by
  obtain ⟨cs, rfl, hsz⟩ := okWide_struct ht hv
  obtain ⟨fuel, hf⟩ := h
  obtain ⟨x, hx, hq⟩ := mk cs.toList (by simpa [hC] using hsz) (trod_fits n hls (by simpa [Value.cells] using hf))
  exact ⟨x, by rw [hx], hq⟩
end
/-! ### Behind the call -/
theorem trodAll_stays {H : Type} {enc : TypeId × Value → H} {P : Program} (hl : laidOutB P = true) {W W' : World} (hb : Below W.heap.size W W') : ∀ (ts : List TypeId) {vs : List Value} {ds : List (DataW H)} {ps : List MemPlace},
    ts.all (fun t => P.readableRec t && decide (t < P.types.size)) = true → DataW.TrodAll enc P W 0 (fun _ => true) true ts vs ds ps → (∀ x ∈ ps, x.block < W.heap.size) → DataW.TrodAll enc P W' 0 (fun b => decide (b < W.heap.size)) true ts vs ds ps
  | [], vs, ds, ps, _, h, _ => by
    obtain ⟨rfl, rfl, rfl⟩ := trodAll_nil h
    exact trodAll_mk0
  | t :: ts, vs, ds, ps, hr, h, hlt => by
    obtain ⟨v, vs', d, ds', p, q, rfl, rfl, rfl, h0, h1⟩ := trodAll_cons h
    simp only [List.all_cons, Bool.and_eq_true, decide_eq_true_eq] at hr
    exact trodAll_cons_mk (Below.trod hl hr.1.1 hr.1.2 h0 hb fun x hx => hlt x (List.mem_append.2 (.inl hx))) (trodAll_stays hl hb ts (by simpa using hr.2) h1 fun x hx => hlt x (List.mem_append.2 (.inr hx)))

theorem law_post {H : Type} {enc : TypeId × Value → H} {P : Program} {f : Func} {s : ChangeSpec} {W W' : World} {args : Array Value} {ds gs : List (DataW H)} {before : List MemPlace} {tb : TypeId} (hl : laidOutB P = true) (hrt : f.resultTypes = #[tb]) (htb : P.underlying tb = some .bool)
    (hr : f.params.toList.all (fun t => P.readableRec t && decide (t < P.types.size)) = true) (hv : s.vars = []) (hfn : s.fn H (ds ++ []) = { results := [.lit (.bool true)], args := ds }) (hW : DataW.Whole enc P f.params.toList s.vars false W args.toList ds gs before)
    (hb : Below W.heap.size W W') : s.post enc P f false true false false W args (.bool true) W' := by
  have hW' := hW
  have hlt := hW.lt
  obtain ⟨p, q, hA0, hV, rfl, hfz, hnd⟩ := hW
  rw [hv] at hV
  obtain ⟨rfl, rfl⟩ := trodVars_none hV
  refine ⟨ds, [], p ++ [], [], p, [], hW', ?_, ?_, ?_, hb.frame _, fun h => by cases h⟩
  · rw [hrt, hfn]
    exact trodAll_mk1 (shut_bool htb _)
  · rw [hfn]
    exact trodAll_stays hl hb _ hr hA0 fun x hx => hlt x (by simpa using hx)
  · rw [hfn, hv]
    exact rfl

end Go.Vc

namespace Go.Vc
open Go.RowKit
theorem get_of {α : Type} {xs : List α} {k : Nat} (hk : k < xs.length) : ∃ x, xs[k]? = some x ∧ ∀ h, xs[((k : Int)).toNat]'h = x := ⟨xs[k], List.getElem?_eq_getElem hk, fun _ => rfl⟩
theorem cut_block {x : Option Addr} {l m k : Nat} {a : Addr} (h : cut x l m k = some a) : ∃ b, x = some b ∧ a.block = b.block := by
  unfold cut at h
  split at h
  · exact ⟨a, h, rfl⟩
  · obtain ⟨b, hb, rfl⟩ := Option.map_eq_some_iff.1 h
    exact ⟨b, hb, by simp⟩
theorem callR_plain {C : Cx} {g : Nat} {first cap : Array Value} {args : List Value} {ks : List Kind} {w : World} {K : Cur ks} (hp : C.plain g = true) (h : callP C.P g (first.toList ++ args ++ cap.toList) ks w K) :
    callR C (.func (.func g) first cap) args ks w K := by
  unfold callR callVal
  simp only [hp]
  exact h
theorem rd_lits {T : Type} {E : El T} {w : World} {g : Nat} {ys : List T} {vs : List Value} (hb : Blk w g E.t vs) (hm : ys.length ≤ maxLen) (hy : flat E ys = vs) : Rd E w ⟨some ⟨g, 0, none⟩, ys.length, ys.length⟩ ys :=
  (Own.of_blk (E := E) (xs := ys) (c := ys.length) (base := g) (Nat.le_refl _) hb (Nat.le_refl _) hm (by rw [← hy, flat_length]) (by rw [← hy, List.take_of_length_le (by rw [flat_length]; exact Nat.le_refl _)])).rd
theorem Chg.gg {w1 w2 : World} {k : Nat} (h : w1.grownBy w2 (some k)) : Chg (fun i => i = k) w1 w2 := Chg.of_grown h fun i hi => by cases hi; rfl
/-- s[l:m:m] of a slice that reads as a list. -/
theorem Rd.slK3 {T : Type} {E : El T} {w : World} {s : Slc} {xs : List T} (h : Rd E w s xs) {lo : Option Int} {hi mx : Int} {k : Nat} (hk : k = E.k) {l m : Nat} {K : Slc → Prop} (hlo : lo = none ∧ l = 0 ∨ lo = some (l : Int)) (hhi : hi = (m : Int)) (hmx : mx = (m : Int))
    (hl : l ≤ m) (hm : m ≤ xs.length) (hK : Rd E w ⟨cut s.a l m E.k, m - l, m - l⟩ ((xs.take m).drop l) → K ⟨cut s.a l m E.k, m - l, m - l⟩) : slK3 s lo hi mx k K := by
  subst hk hhi hmx
  have hn := h.n
  have hnc := h.nc
  have hcm := h.cm
  have hlen : ((xs.take m).drop l).length = m - l := by simp; omega
  have key : Rd E w ⟨cut s.a l m E.k, m - l, m - l⟩ ((xs.take m).drop l) := by
    refine ⟨hlen.symm, Nat.le_refl _, by show m - l ≤ maxLen; omega, fun hp => ?_, fun i x hx => ?_⟩
    · rw [hlen] at hp
      obtain ⟨a, ha⟩ := Option.isSome_iff_exists.1 (h.some_ (by omega))
      show (cut s.a l m E.k).isSome = true
      unfold cut
      rw [ha]
      split <;> rfl
    · have hi : i < m - l := by rw [← hlen]; exact (List.getElem?_eq_some_iff.1 hx).1
      rw [List.getElem?_drop, List.getElem?_take_of_lt (by omega)] at hx
      have hc := h.at_ _ _ hx
      obtain ⟨a, ha⟩ := Option.isSome_iff_exists.1 (h.some_ (by omega))
      have e : (⟨cut s.a l m E.k, m - l, m - l⟩ : Slc).at_ E.k i = s.at_ E.k (l + i) := by
        unfold Slc.at_ cut
        rw [ha, if_neg (by omega)]
        simp only [Option.map_some, Option.getD_some]
        rw [add_add, Nat.add_mul]
      rw [e]
      exact hc
  unfold Vc.slK3
  refine bnd_some (by omega) (by omega) ?_
  refine bnd_some (by omega) (by simp) ?_
  have hk' := hK key
  rcases hlo with ⟨rfl, rfl⟩ | rfl
  · exact bnd_none (by simpa using hk')
  · exact bnd_some (by omega) (by simp; omega) (by simpa using hk')

/-! ### Numbers as bits -/
def kmax : IntKind → Nat
  | .i8 => 7 | .i16 => 15 | .i32 => 31 | .i64 => 63 | .u8 => 8 | .u16 => 16 | .u32 => 32 | .u64 => 64
theorem wrap_nat (k : IntKind) {x : Nat} (h : x < 2 ^ kmax k) : k.wrap (x : Int) = x := by
  cases k <;> simp only [kmax] at h
  · exact IntWalk.i8_in _ (by omega)
  · exact IntWalk.i16_in _ (by omega)
  · exact IntWalk.i32_in _ (by omega)
  · exact IntWalk.i64_in _ (by omega)
  · exact IntWalk.u8_in _ (by omega)
  · exact IntWalk.u16_in _ (by omega)
  · exact IntWalk.u32_in _ (by omega)
  · exact IntWalk.u64_in _ (by omega)
/-! ### Bytes as a number, the first one the lowest -/
def le : List UInt8 → Nat
  | [] => 0
  | b :: r => b.toNat + 256 * le r
end Go.Vc

set_option linter.unusedVariables false
namespace Go.Vc
open Go.RowKit
/-- append(s, y): the element laid in a box, and appended. -/
theorem snoc_own {P : Program} {T : Type} {E : El T} {st ty : TypeId} (TT : SlT P E st) {w : World} {base : Nat} {s : Slc} {xs : List T} {y : T} {vs : List Value} {K : Slc → World → Prop} (hown : Own E w base s xs) (hy : E.cells y = vs)
    (hb : base ≤ w.heap.size) (hl : (xs.length + 1) * TT.i.bytes ≤ 140737488355328) (hm : xs.length + 1 ≤ maxLen)
    (hK : ∀ r w', Own E w' base r (xs ++ [y]) → Chg (fun k => s.blk = some k) w w' → (∀ k, r.blk = some k → s.blk = some k ∨ w.heap.size ≤ k) → K r w') :
    nw E.t vs w fun a w1 => apK P #[st, st] ty s ⟨some a, 1, 1⟩ w1 fun r w2 => K r w2 := by
  refine nw_blk fun w1 hb1 hB1 hs1 => ?_
  refine apK_own TT (hown.ext hB1) (rd_one hb1 hy) (by omega) (by simpa using hl) (by simpa using hm) fun r w2 ho hg hr => hK r w2 ho ?_ ?_
  · exact (Chg.of_ext hB1).trans (Chg.of_grown (S := fun k => s.blk = some k) hg fun k hk => hk) fun i _ hi => hi
  · intro k hk
    rcases hr with hr | hr
    · exact .inl (hr ▸ hk)
    · right
      rw [hr] at hk
      cases hk
      omega
/-- Onto nil. -/
theorem onPtr_a {a : Addr} {K : Addr → Prop} (h : K a) : onPtr (some a) K := h
theorem i64_in {x : Int} (h : -9223372036854775808 ≤ x ∧ x ≤ 9223372036854775807) : IntKind.i64.wrap x = x := wrap64_id h
theorem own_ne_blk {w : World} {T : Type} {E : El T} {b g : Nat} {s : Slc} {xs : List T} {t : TypeId} {vs : List Value} (h : Own E w b s xs) (h' : Blk w g t vs) (hne : E.t ≠ t) : ∀ k, s.blk = some k → k ≠ g := fun k hk => by
  obtain ⟨cs, hcs⟩ := h.blk_t hk
  exact hcs.ne_t h' hne
theorem chg_one {S : Nat → Prop} {w w' : World} {k : Nat} (h : Chg (fun i => i = k) w w') (hk : S k) : Chg S w w' := h.mono fun i _ hi => by rw [hi]; exact hk
end Go.Vc

set_option maxRecDepth 100000
namespace Go.Proofs.YtmoafafalnbkpaaGreatDoor
open Go.Vc Go.RowKit
def E_int : El Int where
  cells x := [(.int .i64 x)]
  t := ty_int
  k := 1
  pos := by decide
  len _ := rfl
  one x v hv := by
    simp only [List.mem_cons, List.mem_nil_iff, or_false] at hv
    rcases hv with rfl <;> rfl

noncomputable def sT_sl_int : SlT PG E_int ty_sl_int where
  ht := by kernel_rfl
  i := (PG.info? 3).getD default
  hi := by kernel_rfl
  z := (.int .i64 0)
  hz := by kernel_rfl
  hs := by kernel_rfl
  hzs := rfl
theorem by_sl_int : sT_sl_int.i.bytes = 8 := by kernel_rfl

def E_uint8 : El UInt8 where
  cells b := [.int .u8 b.toNat]
  t := ty_uint8
  k := 1
  pos := by decide
  len _ := rfl
  one x v hv := by
    simp only [List.mem_cons, List.mem_nil_iff, or_false] at hv
    rcases hv with rfl <;> rfl

def E_api_Cell : El T_api_Cell where
  cells := T_api_Cell.rep.cells
  t := ty_api_Cell
  k := 5
  pos := by decide
  len _ := rfl
  one x v hv := by
    simp only [T_api_Cell.rep, List.mem_cons, List.mem_nil_iff, or_false] at hv
    rcases hv with rfl | rfl | rfl | rfl | rfl <;> rfl

def E_screen_Area : El T_screen_Area where
  cells := T_screen_Area.rep.cells
  t := ty_screen_Area
  k := 5
  pos := by decide
  len _ := rfl
  one x v hv := by
    simp only [T_screen_Area.rep, List.mem_cons, List.mem_nil_iff, or_false] at hv
    rcases hv with rfl | rfl | rfl | rfl | rfl <;> rfl

noncomputable def sT_sl_screen_Area : SlT PG E_screen_Area ty_sl_screen_Area where
  ht := by kernel_rfl
  i := (PG.info? 203).getD default
  hi := by kernel_rfl
  z := (.agg #[(.bool false), (.int .i64 0), (.int .i64 0), (.int .i64 0), (.int .i64 0)])
  hz := by kernel_rfl
  hs := by kernel_rfl
  hzs := rfl
theorem by_sl_screen_Area : sT_sl_screen_Area.i.bytes = 40 := by kernel_rfl

def E_bool : El Bool where
  cells x := [(.bool x)]
  t := ty_bool
  k := 1
  pos := by decide
  len _ := rfl
  one x v hv := by
    simp only [List.mem_cons, List.mem_nil_iff, or_false] at hv
    rcases hv with rfl <;> rfl

noncomputable def sT_sl_bool : SlT PG E_bool ty_sl_bool where
  ht := by kernel_rfl
  i := (PG.info? 4).getD default
  hi := by kernel_rfl
  z := (.bool false)
  hz := by kernel_rfl
  hs := by kernel_rfl
  hzs := rfl
theorem by_sl_bool : sT_sl_bool.i.bytes = 1 := by kernel_rfl

end Go.Proofs.YtmoafafalnbkpaaGreatDoor

set_option linter.unusedVariables false
namespace Go.Proofs
open Go.Shelf
def Tryz.laysM171_ren : Go.Shelf.Ren := ⟨fun | 171 => 82 | 243 => 123 | 246 => 155 | 283 => 176 | 284 => 177 | 285 => 178 | 286 => 179 | 129 => 191 | 317 => 190 | 318 => 192 | 319 => 193 | 320 => 194 | 337 => 211 | 338 => 212 | n => n, fun | 3 => 3 | 9 => 9 | 2 => 2 | 4 => 4 | 171 => 220 | 0 => 0 | 53 => 221 | 37 => 33 | 5 => 5 | 173 => 224 | 212 => 235 | 51 => 236 | 20 => 20 | 213 => 237 | 46 => 226 | 232 => 258 | 233 => 259 | n => n, fun | 17 => 0 | 18 => 4 | 19 => 5 | n => n⟩
theorem Tryz.laysM171 : Go.Proofs.LaysM.n171 Tryz.prog Tryz.laysM171_ren := {
  mixed := by kernel_rfl
  f129 := Tryz.func191.trans (congrArg some (by kernel_rfl))
  f171 := Tryz.func82.trans (congrArg some (by kernel_rfl))
  f243 := Tryz.func123.trans (congrArg some (by kernel_rfl))
  f246 := Tryz.func155.trans (congrArg some (by kernel_rfl))
  f283 := Tryz.func176.trans (congrArg some (by kernel_rfl))
  f284 := Tryz.func177.trans (congrArg some (by kernel_rfl))
  f285 := Tryz.func178.trans (congrArg some (by kernel_rfl))
  f286 := Tryz.func179.trans (congrArg some (by kernel_rfl))
  f317 := Tryz.func190.trans (congrArg some (by kernel_rfl))
  f318 := Tryz.func192.trans (congrArg some (by kernel_rfl))
  f319 := Tryz.func193.trans (congrArg some (by kernel_rfl))
  f320 := Tryz.func194.trans (congrArg some (by kernel_rfl))
  f337 := Tryz.func211.trans (congrArg some (by kernel_rfl))
  f338 := Tryz.func212.trans (congrArg some (by kernel_rfl))
  t0 := Tryz.underlying0
  a0 := Tryz.isAgg0
  z0 := Tryz.sizeOf0
  v0 := Tryz.zeroValue0
  t2 := Tryz.underlying2
  a2 := Tryz.isAgg2
  z2 := Tryz.sizeOf2
  v2 := Tryz.zeroValue2
  t3 := Tryz.underlying3
  a3 := Tryz.isAgg3
  z3 := Tryz.sizeOf3
  v3 := Tryz.zeroValue3
  t4 := Tryz.underlying4
  a4 := Tryz.isAgg4
  z4 := Tryz.sizeOf4
  v4 := Tryz.zeroValue4
  t5 := Tryz.underlying5
  a5 := Tryz.isAgg5
  z5 := Tryz.sizeOf5
  v5 := Tryz.zeroValue5
  t9 := Tryz.underlying9
  a9 := Tryz.isAgg9
  z9 := Tryz.sizeOf9
  v9 := Tryz.zeroValue9
  t20 := Tryz.underlying20
  a20 := Tryz.isAgg20
  z20 := Tryz.sizeOf20
  v20 := Tryz.zeroValue20
  t37 := Tryz.underlying33
  a37 := Tryz.isAgg33
  z37 := Tryz.sizeOf33
  v37 := Tryz.zeroValue33
  t46 := Tryz.underlying226
  a46 := Tryz.isAgg226
  z46 := Tryz.sizeOf226
  v46 := Tryz.zeroValue226
  t51 := Tryz.underlying236
  a51 := Tryz.isAgg236
  z51 := Tryz.sizeOf236
  v51 := Tryz.zeroValue236
  t53 := Tryz.underlying221
  a53 := Tryz.isAgg221
  z53 := Tryz.sizeOf221
  v53 := Tryz.zeroValue221
  t171 := Tryz.underlying220
  a171 := Tryz.isAgg220
  z171 := Tryz.sizeOf220
  v171 := Tryz.zeroValue220
  t173 := Tryz.underlying224
  a173 := Tryz.isAgg224
  z173 := Tryz.sizeOf224
  v173 := Tryz.zeroValue224
  t212 := Tryz.underlying235
  a212 := Tryz.isAgg235
  z212 := Tryz.sizeOf235
  v212 := Tryz.zeroValue235
  t213 := Tryz.underlying237
  a213 := Tryz.isAgg237
  z213 := Tryz.sizeOf237
  t232 := Tryz.underlying258
  a232 := Tryz.isAgg258
  z232 := Tryz.sizeOf258
  v232 := Tryz.zeroValue258
  t233 := Tryz.underlying259
  a233 := Tryz.isAgg259
  z233 := Tryz.sizeOf259
  v233 := Tryz.zeroValue259
  g17 := by kernel_rfl
  g18 := by kernel_rfl
  g19 := by kernel_rfl
  i0 := by kernel_rfl
  i2 := by kernel_rfl
  i3 := by kernel_rfl
  i4 := by kernel_rfl
  i5 := by kernel_rfl
  i9 := by kernel_rfl
  i20 := by kernel_rfl
  i37 := by kernel_rfl
  i46 := by kernel_rfl
  i51 := by kernel_rfl
  i53 := by kernel_rfl
  i171 := by kernel_rfl
  i173 := by kernel_rfl
  i212 := by kernel_rfl
  i232 := by kernel_rfl
  i233 := by kernel_rfl
  m17 := by kernel_rfl
  m18 := by kernel_rfl
  m19 := by kernel_rfl }
open Go.RowKit Go.Sort Go.Lib in
/-- strconv.Itoa: "Itoa is equivalent to FormatInt(int64(i), 10).": i's DECIMAL NUMERAL ('Lib.itoa': a '-' where i is negative, then the digits), FOR EVERY int. The world behind the call: the world before it, new blocks behind the heap (the library's 'var a [24]byte'), draws. (LAID: no walk: one application.) -/
theorem Tryz.strconv_Itoa (n : Int) (h0 : -9223372036854775808 ≤ n) (h1 : n ≤ 9223372036854775807) (w : World) (htab : Lib.TabIs Tryz.prog w "internal/strconv.uint64pow10" .u64 Lib.pow10Tab) :
    Calls Tryz.prog 82 #[.int .i64 n] w fun e w' => e = .returned (.string ⟨(Lib.itoa n).toArray⟩) ∧ ∃ k os, w' = grow (w.drewN k) os := Any.strconv_Itoa Tryz.laysM171 n h0 h1 w htab
end Go.Proofs

set_option linter.unusedVariables false
namespace Go.Proofs.YtmoafafalnbkpaaGreatDoor
open Go.Vc Go.RowKit
set_option maxRecDepth 400000
def strB (bs : List UInt8) : ByteArray := ⟨bs.toArray⟩
theorem strB_toList (l : List UInt8) : (strB l).toList = l := by rw [ByteArray.toList_eq]; rfl
theorem strB_data (l : List UInt8) : (strB l).data.toList = l := rfl
theorem strB_eta (s : ByteArray) : strB s.data.toList = s := by cases s; simp [strB]
theorem strB_size (l : List UInt8) : (strB l).size = l.length := by show l.toArray.size = _; simp
theorem strB_app (a b : List UInt8) : strB a ++ strB b = strB (a ++ b) := by
  have : (strB a ++ strB b).data = (strB (a ++ b)).data := by rw [ByteArray.data_append]; simp [strB]
  calc strB a ++ strB b = ⟨(strB a ++ strB b).data⟩ := rfl
    _ = strB (a ++ b) := by rw [this]
theorem run_bytes_strB {w : World} {s : Slc} {bs : List UInt8} (h : Rd E_uint8 w s bs) : (convert ty_sl_uint8 ty_string (.slice s.a s.n s.c)).run PG w = .ok (.string (strB bs)) w := by
  cases ha : s.a with
  | none =>
    have : bs = [] := by
      cases bs with
      | nil => rfl
      | cons x r => have := h.some_ (by simp); rw [ha] at this; cases this
    subst this
    exact run_convert_bytes_nil (P := PG) w ty_sl_uint8 ty_uint8 (by kernel_rfl) (by kernel_rfl) _ _ ty_string (by kernel_rfl)
  | some a =>
    have hn := h.n
    have hl : (loadCells a bs.length).run PG w = .ok ((bs.map fun b => Value.int .u8 b.toNat)).toArray w := by
      have := run_loadCells_list (P := PG) w a (bs.map fun b => Value.int .u8 b.toNat) (fun j v hj => by
        rw [List.getElem?_map] at hj
        cases hb : bs[j]? with
        | none => rw [hb] at hj; cases hj
        | some b =>
          rw [hb] at hj
          cases hj
          have := h.at_ j b hb 0 (.int .u8 b.toNat) rfl
          simp only [Slc.at_, ha, Option.getD_some, add_zero] at this
          rwa [show j * E_uint8.k = j from Nat.mul_one j] at this)
      simpa using this
    have hb := run_bytesToString w a s.n s.c (bs.map fun b => (b.toNat : Int)) (by rw [hn, hl]; simp)
    rw [run_convert_bytes_string w ty_sl_uint8 ty_string ty_uint8 _ s.n s.c (by kernel_rfl) (by kernel_rfl) (by kernel_rfl), hb, foldl_push_bytes]
    have e : (bs.map fun b => (b.toNat : Int)).map (fun n => UInt8.ofNat n.toNat) = bs := by
      rw [List.map_map]
      conv => rhs; rw [← List.map_id bs]
      refine List.map_congr_left fun b _ => ?_
      simp
    rw [e]
    simp [strB, ByteArray.empty, ByteArray.emptyWithCapacity]
    rfl
section
variable {w : World}
theorem toStr_spec {s : Slc} {bs : List UInt8} (h : Rd E_uint8 w s bs) {K : ByteArray → World → Prop} (hK : K (strB bs) w) : runK1 PG (convert ty_sl_uint8 ty_string (.slice s.a s.n s.c)) Kind.string w K := ⟨_, w, run_bytes_strB h, hK⟩
theorem toBytes_spec {bs : List UInt8} (hl : bs.length ≤ 1000000000) {K : Slc → World → Prop} (hK : ∀ q w', Rd E_uint8 w' q bs → (∀ k, q.blk = some k → w.heap.size ≤ k) → Below w.heap.size w w' → q.a.isSome = true → K q w') :
    runK1 PG (convert ty_string ty_sl_uint8 (.string (strB bs))) Kind.slice w K := by
  have hr := Lib.run_convert_string_bytes (P := PG) w ty_string ty_sl_uint8 ty_uint8 (strB bs) (u := .string) (by kernel_rfl) (by kernel_rfl) (by kernel_rfl)
  have hsz := strB_size bs
  refine ⟨⟨some ⟨w.heap.size, 0, none⟩, (strB bs).size, grownCap w (strB bs).size 0 ty_uint8⟩, _, hr, hK _ _ ⟨hsz, grownCap_ge w _ 0 ty_uint8, grownCap_le_maxLen w _ 0 ty_uint8 (by rw [hsz]; unfold maxLen; omega), fun _ => rfl, fun i x hx => ?_⟩ (fun k hk => by cases hk; exact Nat.le_refl _) ⟨rfl, rfl, rfl, by rw [Lib.bytesWorld_size]; omega, fun k hk => Lib.bytesWorld_at_old w _ _ k hk⟩ rfl⟩
  have hi : i < bs.length := (List.getElem?_eq_some_iff.1 hx).1
  intro j v hv
  match j, hv with
  | 0, hv =>
    cases hv
    have := Lib.bytesWorld_cell w ty_uint8 (strB bs) i (by rw [hsz]; exact hi)
    rw [strB_data] at this
    have e : bs.getD i 0 = x := by rw [List.getD_eq_getElem?_getD, hx]; rfl
    rw [e] at this
    show World.cell? _ (((⟨w.heap.size, 0, none⟩ : Addr).add (i * 1)).add 0) = _
    rw [add_zero, Nat.mul_one, add_mk, Nat.zero_add]
    exact this
theorem ixS_of {bs : List UInt8} {i : Int} {k : Nat} {b : UInt8} {K : Int → Prop} (hi : i = k) (hb : bs[k]? = some b) (hK : K b.toNat) : ixS (strB bs) i K := by
  subst hi
  have hk : k < bs.length := (List.getElem?_eq_some_iff.1 hb).1
  refine ⟨⟨by omega, by rw [strB_size]; omega⟩, ?_⟩
  have e : (strB bs).data.getD ((k : Int)).toNat 0 = b := by
    show bs.toArray.getD _ _ = _
    rw [Int.toNat_natCast, Array.getD_eq_getD_getElem?, List.getElem?_toArray, hb]
    rfl
  rw [e]
  exact hK
/-- The library's table of powers of ten lies as its text lays it. -/
def Tab (w : World) : Prop := Lib.TabIs PG w "internal/strconv.uint64pow10" .u64 Lib.pow10Tab
theorem tab_lt {g : Nat} {cs : Array Value} {n : String} (hg : PG.globalNamed n = some g) (h : w.var? PG n = some cs) : g < w.heap.size := by
  unfold World.var? at h
  rw [hg] at h
  dsimp only [Option.bind_some] at h
  rcases Nat.lt_or_ge g w.heap.size with hlt | hge
  · exact hlt
  · rw [Array.getElem?_eq_none hge] at h; cases h
theorem Tab.ext {w' : World} (h : Tab w) (hb : Below w.heap.size w w') : Tab w' :=
  var?_below (g := 0) hb (by kernel_rfl) (tab_lt (by kernel_rfl) h) h
theorem itoa_len {n : Int} (h0 : -9223372036854775808 ≤ n) (h1 : n ≤ 9223372036854775807) : (Lib.itoa n).length ≤ 20 := by
  have hd : ∀ (m u : Nat), 1 ≤ m → u < 10 ^ m → (Lib.decDigits u).length ≤ m := by
    intro m
    induction m with
    | zero => intro u h; omega
    | succ m ih =>
      intro u _ h
      rw [Lib.decDigits]
      split
      · simp
      · rename_i h10
        have : m ≠ 0 := fun e => by subst e; simp at h; omega
        have := ih (u / 10) (by omega) (by rw [Nat.pow_succ] at h; omega)
        rw [List.length_append, List.length_singleton]
        omega
  unfold Lib.itoa
  split
  · rw [List.length_cons]
    have := hd 19 n.natAbs (by omega) (by omega)
    omega
  · have := hd 19 n.toNat (by omega) (by omega)
    omega
theorem Itoa_spec (hT : Tab w) {n : Int} (h0 : -9223372036854775808 ≤ n) (h1 : n ≤ 9223372036854775807) {K : ByteArray → World → Prop} (hK : ∀ w', Below w.heap.size w w' → K (strB (Lib.itoa n)) w') : c_strconv_Itoa n w K := by
  refine Calls.mono (Tryz.strconv_Itoa n h0 h1 w hT) ?_
  rintro e w' ⟨rfl, k, os, rfl⟩
  refine ⟨_, rfl, hK _ ⟨rfl, rfl, rfl, by show _ ≤ ((w.drewN k).heap ++ os).size; simp [World.drewN], fun j hj => ?_⟩⟩
  show ((w.drewN k).heap ++ os)[j]? = _
  rw [Array.getElem?_append_left (by simpa [World.drewN] using hj)]
  rfl
end
end Go.Proofs.YtmoafafalnbkpaaGreatDoor

set_option linter.unusedVariables false
namespace Go.Proofs.YtmoafafalnbkpaaGreatDoor
open Go.Vc Go.ChangeShapes Go.WideShapes Go.ChangeAt Go.RowKit
set_option maxRecDepth 100000
theorem own : ownKnob Tryz.prog.godebug = none := by kernel_rfl
theorem laidOut : laidOutB Tryz.prog = true := by kernel_rfl
theorem leaf_int {ls : List Leaf} {vs : List Value} {k : IntKind} (h : LeafFit ls vs) (j : Nat) (hj : ls[j]? = some (.int k)) : ∃ z, vs[j]? = some (.int k z) ∧ (Lit.int k z).wf = true := by
  obtain ⟨v, hv, z, rfl, hw⟩ := h j _ hj
  exact ⟨z, hv, hw⟩
theorem list_of_get {vs us : List Value} (hl : vs.length = us.length) (h : ∀ (j : Nat), j < us.length → us[j]? = vs[j]?) : us = vs :=
  List.ext_getElem? fun j => by
    rcases Nat.lt_or_ge j us.length with hj | hj
    · exact h j hj
    · rw [List.getElem?_eq_none hj, List.getElem?_eq_none (by omega)]
def elemOf (P : Program) (t : TypeId) : TypeId := match P.underlying t with
  | some (.array _ e) => e
  | _ => 0
/-! ### The world that lays the listed tables -/
def tabs : List (String × DataW Unit) := [("math/bits.deBruijn32tab", Rows.laid_math_bits_deBruijn32tab), ("math/bits.deBruijn64tab", Rows.laid_math_bits_deBruijn64tab), ("internal/strconv.uint64pow10", Rows.laid_internal_strconv_uint64pow10), ("unicode/utf8.acceptRanges", Rows.laid_unicode_utf8_acceptRanges), ("unicode/utf8.first", Rows.laid_unicode_utf8_first)]
theorem tabs_shaped (os : Os) : (World.laidAll Tryz.prog os tabs).Shaped Tryz.prog := World.shaped_of_ZipB (by kernel_rfl) (by kernel_rfl)
theorem tabs_met (os : Os) (args : Array Value) : laidMetH Tryz.prog tabs ((World.laidAll Tryz.prog os tabs).forCall (fun _ _ => 0) ⟨#[], args, []⟩).memory := by
  rw [MakeChecks.laidMetH_plain _ _ _ (by kernel_rfl)]
  exact laidMet_laidAll _ (by kernel_rfl) (by kernel_rfl)
theorem tabIs_of_vars {P : Program} {W : World} {name : String} {k : IntKind} {zs : List Int} {rest : List (String × DataW Unit)} {g : Nat} {t e : TypeId} {n : Nat} {ps : List MemPlace}
    (hg : P.globalNamed name = some g) (hty : (P.globals[g]?).map (·.type) = some t) (ht : P.underlying t = some (.array n e)) (he : P.underlying e = some (.int k)) (hce : P.cellsOf e = 1) (hct : P.cellsOf t = n)
    (h : DataW.LaidVars P W ((name, Lib.tabData k zs) :: rest) ps) : Lib.TabIs P W name k zs := by
  obtain ⟨g', t', cs, fuel, p, q, hg', ht', hvar, hd, _, _⟩ := h
  obtain rfl := Option.some.inj (hg.symm.trans hg')
  obtain rfl := Option.some.inj (hty.symm.trans ht')
  unfold Lib.TabIs
  rw [hvar, ← Lib.cells_of_tab ht he hce hct hd]
theorem tab_of_laid {W : World} (h : laidMetH Tryz.prog tabs W) : Tab W := by
  rw [MakeChecks.laidMetH_plain _ _ _ (by kernel_rfl)] at h
  obtain ⟨ps, ⟨_, _, _, _, _, _, _, _, _, _, ⟨_, _, _, _, _, _, _, _, _, _, h, _⟩, _⟩, _⟩ := h
  have e : (Rows.laid_internal_strconv_uint64pow10 : DataW Unit) = Lib.tabData .u64 Lib.pow10Tab := by kernel_rfl
  rw [e] at h
  exact tabIs_of_vars (g := 0) (t := (Tryz.prog.globals[0]?).map (·.type) |>.getD 0) (e := elemOf Tryz.prog ((Tryz.prog.globals[0]?).map (·.type) |>.getD 0)) (n := 20) (by kernel_rfl) (by kernel_rfl) (by kernel_rfl) (by kernel_rfl) (by kernel_rfl) (by kernel_rfl) h
end Go.Proofs.YtmoafafalnbkpaaGreatDoor

namespace Go.Proofs.YtmoafafalnbkpaaGreatDoor
open Go.Vc Go.RowKit
abbrev Cell := T_api_Cell
abbrev Attr := T_api_Attr
instance : Inhabited T_api_Attr := ⟨⟨0, 0, 0⟩⟩
instance : Inhabited T_api_Cell := ⟨⟨0, 0, ⟨0, 0, 0⟩⟩⟩

def cellE : El T_api_Cell where
  cells := T_api_Cell.rep.cells
  t := ty_api_Cell
  k := 5
  pos := by decide
  len _ := rfl
  one x v hv := by
    simp only [T_api_Cell.rep, List.mem_cons, List.mem_nil_iff, or_false] at hv
    rcases hv with rfl | rfl | rfl | rfl | rfl <;> rfl

noncomputable def slT25 : SlT PG cellE ty_line_Line where
  ht := by kernel_rfl
  i := (PG.info? ty_api_Cell).getD default
  hi := by kernel_rfl
  z := .agg #[.int .i32 0, .int .i64 0, .int .i64 0, .int .i64 0, .int .i64 0]
  hz := by kernel_rfl
  hs := by kernel_rfl
  hzs := rfl
noncomputable def slT24 : SlT PG cellE ty_sl_api_Cell where
  ht := by kernel_rfl
  i := (PG.info? ty_api_Cell).getD default
  hi := by kernel_rfl
  z := .agg #[.int .i32 0, .int .i64 0, .int .i64 0, .int .i64 0, .int .i64 0]
  hz := by kernel_rfl
  hs := by kernel_rfl
  hzs := rfl
theorem by25 : slT25.i.bytes = 40 := by kernel_rfl
theorem by24 : slT24.i.bytes = 40 := by kernel_rfl

/-! ### What is reckoned -/
def kindAt (xs : List Cell) (i : Int) : Int := if 0 ≤ i then ((xs[i.toNat]?).map (·.Kind)).getD (-1) else -1
def isB (xs : List Cell) (col kind : Int) : Bool := decide (0 ≤ col) && decide (col < xs.length) && (kindAt xs col == kind)
def fitsB (xs : List Cell) (i : Int) : Bool :=
  if kindAt xs i = 0 then true else if kindAt xs i = 1 then isB xs (i + 1) 2 else if kindAt xs i = 2 then isB xs (i - 1) 1 else false
def okB (xs : List Cell) (i : Nat) : Bool := fitsB xs i && !(kindAt xs i == 2 && ((xs[i]?).map (·.R)).getD 0 != 0)
def rightB (xs : List Cell) : Bool := (List.range xs.length).all (okB xs)
def blankC (a : Attr) : Cell := ⟨0, 0, a⟩
def mendC (xs : List Cell) (i : Nat) (c : Cell) : Cell :=
  if c.Kind ≠ 0 ∧ c.Kind ≠ 1 ∧ c.Kind ≠ 2 then { c with Kind := 0 } else if fitsB xs i = false then blankC c.A else if c.Kind = 2 then { c with R := 0 } else c
def mendL (xs : List Cell) : List Cell := xs.mapIdx (mendC xs)
theorem mendL_length (xs : List Cell) : (mendL xs).length = xs.length := by simp [mendL]
theorem mendL_get (xs : List Cell) (i : Nat) (x : Cell) (h : xs[i]? = some x) : (mendL xs)[i]? = some (mendC xs i x) := by simp [mendL, h]

theorem kindAt_get {xs : List Cell} {i : Nat} {x : Cell} (h : xs[i]? = some x) : kindAt xs i = x.Kind := by simp [kindAt, h]
theorem kindAt_int {xs : List Cell} {i : Int} (h0 : 0 ≤ i) (h1 : i < xs.length) : kindAt xs i = (xs[i.toNat]'(by omega)).Kind := by
  have : i.toNat < xs.length := by omega
  simp [kindAt, h0, this]

/-! ### Cells in memory -/
theorem cell_kind {w : World} {a : Addr} {c : Cell} (h : cellsAt w a (cellE.cells c)) : w.cell? (a.add 1) = some (.int .i64 c.Kind) := h 1 _ rfl
theorem cell_a {w : World} {a : Addr} {c : Cell} (h : cellsAt w a (cellE.cells c)) : cellsAt w (a.add 2) (T_api_Attr.rep.cells c.A) :=
  h.sub 2 fun j v hj => by
    match j, hj with
    | 0, hj => exact hj
    | 1, hj => exact hj
    | 2, hj => exact hj
    | j + 3, hj => cases hj

theorem rd_maxLen {w : World} {s : Slc} {xs : List Cell} (h : Rd cellE w s xs) : xs.length ≤ 9223372036854775807 := by
  have h1 := h.n
  have h2 := h.nc
  have h3 := h.cm
  unfold maxLen at h3
  rw [h1] at h2
  omega

/-! ### is, fits -/
theorem is_spec {l : Slc} {xs : List Cell} {col kind : Int} {w : World} {K : Bool → World → Prop} (h : Rd cellE w l xs) (hK : K (isB xs col kind) w) : c_line_Line_is l col kind w K := by
  refine call_line_Line_is _ _ _ ?_
  unfold sh_line_Line_is
  refine cond_of (fun h1 => ?_) (fun h1 => ?_)
  · have h1 := of_decide_eq_true h1
    refine cond_of (fun h2 => ?_) (fun h2 => ?_)
    · have h2 := of_decide_eq_true h2
      rw [h.n] at h2
      refine h.ix rfl h1 h2 fun hc => ldI_of (cell_kind hc) ?_
      have e : isB xs col kind = (xs[col.toNat].Kind == kind) := by
        unfold isB
        rw [decide_eq_true (show 0 ≤ col from h1), decide_eq_true h2, kindAt_int h1 h2]
        rfl
      rw [← e]
      exact hK
    · have h2 := of_decide_eq_false h2
      rw [h.n] at h2
      have e : isB xs col kind = false := by
        unfold isB
        rw [decide_eq_false h2]
        simp
      rw [← e]
      exact hK
  · have h1 := of_decide_eq_false h1
    have e : isB xs col kind = false := by simp only [isB, decide_eq_false (show ¬ 0 ≤ col from h1), Bool.false_and]
    rw [← e]
    exact hK

theorem fits_spec {l : Slc} {xs : List Cell} {col : Int} {w : World} {K : Bool → World → Prop} (h : Rd cellE w l xs) (h0 : 0 ≤ col) (h1 : col < xs.length) (hK : K (fitsB xs col) w) : c_line_Line_fits l col w K := by
  have hm := rd_maxLen h
  refine call_line_Line_fits _ _ ?_
  unfold sh_line_Line_fits
  refine h.ix rfl h0 h1 fun hc => ldI_of (cell_kind hc) ?_
  rw [← kindAt_int h0 h1]
  rw [wrap64_id (show -9223372036854775808 ≤ col + 1 ∧ col + 1 ≤ 9223372036854775807 by omega), wrap64_id (show -9223372036854775808 ≤ col - 1 ∧ col - 1 ≤ 9223372036854775807 by omega)]
  unfold fitsB at hK
  refine cond_of (fun e => ?_) (fun e => ?_)
  · rw [if_pos (eq_of_beq e)] at hK; exact hK
  · have e := beq_eq_false_iff_ne.1 e
    rw [if_neg e] at hK
    refine cond_of (fun e => ?_) (fun e => ?_)
    · rw [if_pos (eq_of_beq e)] at hK; exact is_spec h hK
    · have e := beq_eq_false_iff_ne.1 e
      rw [if_neg e] at hK
      refine cond_of (fun e => ?_) (fun e => ?_)
      · rw [if_pos (eq_of_beq e)] at hK; exact is_spec h hK
      · have e := beq_eq_false_iff_ne.1 e
        rw [if_neg e] at hK
        exact hK

/-! ### blanks, New -/
theorem blanks_spec {n : Int} {a : Attr} {w : World} {K : Slc → World → Prop} (hn : n ≤ 1000000)
    (hK : ∀ r w', Go.Vc.Own cellE w' w.heap.size r (List.replicate n.toNat (blankC a)) → Below w.heap.size w w' → K r w') : c_line_blanks n a w K := by
  refine call_line_blanks _ _ ?_
  unfold sh_line_blanks
  refine nw_blk fun w1 hb1 hB1 hs1 => ?_
  refine loopP_rule (fun (s : Slc × Int × Unit) w2 => ∃ k : Nat, s.2.1 = k ∧ (k : Int) ≤ max n 0 ∧ Go.Vc.Own cellE w2 w.heap.size s.1 (List.replicate k (blankC a)) ∧ Blk w2 w.heap.size ty_api_Attr (T_api_Attr.rep.cells a) ∧ Below w.heap.size w w2 ∧ w.heap.size < w2.heap.size ∧ (∀ g, s.1.blk = some g → w.heap.size < g))
    (fun s => (n - s.2.1).toNat) ⟨0, rfl, by omega, Go.Vc.Own.nil _ _ _, hb1, hB1, by omega, fun g hg => by cases hg⟩ ?_
  rintro ⟨s, i, _⟩ w2 ⟨k, rfl, hk, ho, hb, hB, hlt, hne⟩ I hI
  dsimp only at *
  refine cond_of (fun h => ?_) (fun h => ?_)
  · have h := of_decide_eq_true h
    refine ldS_of hb.cells ?_
    refine nw_blk fun w3 hb3 hB3 hs3 => ?_
    have hd : Rd cellE w3 ⟨some ⟨w2.heap.size, 0, none⟩, 1, 1⟩ [blankC a] := rd_one (E := cellE) hb3 rfl
    refine apK_own slT25 (ho.ext hB3) hd (by omega) (by rw [by25]; simp; omega) (by simp [maxLen]; omega) fun r w4 ho4 hg4 hr4 => ?_
    rw [wrap64_id (by omega)]
    have hB4 : Below w.heap.size w w4 := (hB.trans (hB3.mono (by omega))).grown hg4 (by omega) fun g hg => by
      exact ((ho.lt g hg).1)
    refine hI (r, (k : Int) + 1, ()) w4 ⟨k + 1, by simp, by omega, ?_, ?_, hB4, ?_, ?_⟩ (by simp; omega)
    · rw [List.replicate_succ']; exact ho4
    · refine (hb.ext hB3).grown hg4 fun e => ?_
      have := hne _ e.symm
      omega
    · have := hg4.size; omega
    · intro g hg
      rcases hr4 with e | e
      · rw [e] at hg; exact hne g hg
      · rw [e] at hg; cases hg; omega
  · have h := of_decide_eq_false h
    refine hK s w2 ?_ hB
    have : n.toNat = k := by omega
    rw [this]; exact ho

def newL (cols : Int) (a : Attr) : List Cell := if cols < 0 ∨ cols > 1000 then [] else List.replicate cols.toNat (blankC a)

theorem New_spec {n : Int} {a : Attr} {w : World} {K : Slc → World → Prop}
    (hK : ∀ r w', Go.Vc.Own cellE w' w.heap.size r (newL n a) → Below w.heap.size w w' → K r w') : c_line_New n a w K := by
  refine call_line_New _ _ ?_
  unfold sh_line_New
  refine nw_blk fun w1 hb1 hB1 hs1 => ?_
  refine joinP_of fun J hJ => ?_
  have nilc : (n < 0 ∨ n > 1000) → K ⟨none, 0, 0⟩ w1 := fun h => hK _ _ (by rw [newL, if_pos h]; exact Go.Vc.Own.nil _ _ _) hB1
  refine cond_of (fun h => nilc (.inl (of_decide_eq_true h))) (fun h => ?_)
  refine cond_of (fun h => nilc (.inr (of_decide_eq_true h))) (fun h' => ?_)
  have h := of_decide_eq_false h
  have h' := of_decide_eq_false h'
  refine hJ _ _ (ldS_of hb1.cells (blanks_spec (by omega) fun r w' ho hB => hK r w' ?_ (hB1.trans (hB.mono (by omega)))))
  rw [newL, if_neg (by omega)]
  exact ho.base (by omega)

/-! ### Clone -/
theorem Clone_spec {s : Slc} {xs : List Cell} {w : World} {K : Slc → World → Prop} (h : Rd cellE w s xs) (hl : xs.length ≤ 1000000)
    (hK : ∀ r w', Go.Vc.Own cellE w' w.heap.size r xs → Below w.heap.size w w' → K r w') : c_slices_Clone_line_Line_api_Cell s w K := by
  refine call_slices_Clone_line_Line_api_Cell _ ?_
  unfold sh_slices_Clone_line_Line_api_Cell
  refine cond_of (fun e => ?_) (fun e => ?_)
  · have : s.a = none := by cases ha : s.a with
      | none => rfl
      | some a => rw [ha] at e; cases e
    rw [h.none_nil this] at hK
    exact hK _ _ (Go.Vc.Own.nil _ _ _) (Below.refl _ _)
  · refine nw_blk fun w1 hb1 hB1 hs1 => ?_
    refine apK_own slT25 (own_empty (E := cellE) hb1 (Nat.le_refl _)) (h.ext hB1) (by omega) (by rw [by25]; simp; omega) (by simp [maxLen]; omega) fun r w2 ho2 hg2 hr2 => ?_
    exact hK r w2 (by simpa using ho2) (hB1.grown hg2 (by omega) fun g hg => by cases hg; exact Nat.le_refl _)

/-! ### Mend -/
theorem Mend_spec {l : Slc} {xs : List Cell} {w : World} {K : Slc → World → Prop} (h : Rd cellE w l xs) (hl : xs.length ≤ 1000000)
    (hK : ∀ r w', Go.Vc.Own cellE w' w.heap.size r (mendL xs) → Below w.heap.size w w' → K r w') : c_line_Line_Mend l w K := by
  refine call_line_Line_Mend _ ?_
  unfold sh_line_Line_Mend
  refine Clone_spec h hl fun r w1 ho1 hB1 => ?_
  refine loopP_rule (fun (s : Int × Unit) w2 => ∃ k : Nat, s.1 = k ∧ k ≤ xs.length ∧ Go.Vc.Own cellE w2 w.heap.size r (mix (mendL xs) xs k) ∧ Below w.heap.size w w2)
    (fun s => xs.length - s.1.toNat) ⟨0, rfl, by omega, by rw [mix_zero]; exact ho1, hB1⟩ ?_
  rintro ⟨i, _⟩ w2 ⟨k, rfl, hk, ho, hB⟩ I hI
  dsimp only at *
  have hml := mendL_length xs
  refine cond_of (fun hlt => ?_) (fun hge => ?_)
  · have hlt := of_decide_eq_true hlt
    rw [h.n] at hlt
    have hkl : k < xs.length := by omega
    obtain ⟨x, hx⟩ : ∃ x, xs[k]? = some x := ⟨xs[k], List.getElem?_eq_getElem hkl⟩
    have hxs : xs[((k : Int)).toNat]'(by omega) = x := by
      have := List.getElem?_eq_getElem hkl
      rw [hx] at this
      exact (Option.some.inj this).symm
    have hm := mendL_get xs k x hx
    have hcur : (mix (mendL xs) xs k)[k]? = some x := by rw [mix_get hml hkl, if_neg (by omega)]; exact hx
    rw [wrap64_id (by omega)]
    have hr0 : r.n = xs.length := by have := ho.rd.n; rwa [mix_length hml] at this
    -- the end of a round
    have fin : ∀ w', Go.Vc.Own cellE w' w.heap.size r (mix (mendL xs) xs (k + 1)) → Below w.heap.size w w' → I ((k : Int) + 1, ()) w' := fun w' ho' hB' =>
      hI _ _ ⟨k + 1, by simp, by omega, ho', hB'⟩ (by simp; omega)
    have hrd : Rd cellE w2 l xs := h.ext hB
    refine hrd.ix rfl (by omega) (by omega) fun hc => ?_
    rw [hxs] at hc
    refine ldS_of (x := x) hc ?_
    refine box_of rfl fun w4 hb4 hB4 hs4 => ?_
    have ho4 := ho.ext hB4
    have hB04 : Below w.heap.size w w4 := hB.trans (hB4.mono hB.size)
    have hsz : w.heap.size ≤ w2.heap.size := hB.size
    -- writing into the result
    have wr : ∀ (w5 : World) (y : Cell) (j : Nat) (us : List Value), Go.Vc.Own cellE w5 w.heap.size r (mix (mendL xs) xs k) → Below w.heap.size w w5 → mendC xs k x = y → j + us.length ≤ 5 → cellE.cells y = putL (cellE.cells x) j us →
        ixK r (k : Int) 5 fun t => stK (t.add j) us w5 fun w6 => I ((k : Int) + 1, ()) w6 := by
      intro w5 y j us ho5 hB5 hy hj hp
      refine ho5.rd.ix (xs := mix (mendL xs) xs k) rfl (by omega) (by rw [mix_length hml]; omega) fun _ => ?_
      refine ho5.st (i := k) (x := x) (y := y) (by simpa using hcur) hj hp fun w6 ho6 hg6 hs6 => fin _ ?_ ?_
      · rw [mix_set hml hkl (by rw [hm, hy])] at ho6; exact ho6
      · exact hB5.grown hg6 hB5.size fun g hg => (ho5.lt g hg).1
    have wr0 : ∀ (w5 : World) (y : Cell) (us : List Value), Go.Vc.Own cellE w5 w.heap.size r (mix (mendL xs) xs k) → Below w.heap.size w w5 → mendC xs k x = y → cellE.cells y = us →
        ixK r (k : Int) 5 fun t => stK t us w5 fun w6 => I ((k : Int) + 1, ()) w6 := by
      intro w5 y us ho5 hB5 hy hp
      refine ho5.rd.ix (xs := mix (mendL xs) xs k) rfl (by omega) (by rw [mix_length hml]; omega) fun _ => ?_
      refine ho5.st0 (i := k) (x := x) (y := y) (by simpa using hcur) hp fun w6 ho6 hg6 hs6 => fin _ ?_ ?_
      · rw [mix_set hml hkl (by rw [hm, hy])] at ho6; exact ho6
      · exact hB5.grown hg6 hB5.size fun g hg => (ho5.lt g hg).1
    refine joinP_of fun J hJ => ?_
    have kind4 : w4.cell? ((⟨w2.heap.size, 0, none⟩ : Addr).add 1) = some (.int .i64 x.Kind) := hb4.cells 1 _ rfl
    -- behind the join: the cell is of no kind, or it is of one
    have bad : (x.Kind ≠ 0 ∧ x.Kind ≠ 1 ∧ x.Kind ≠ 2) → J (true, ()) w4 := fun hb => hJ _ _ (by
      dsimp only [cond_true]
      exact wr w4 { x with Kind := 0 } 1 _ ho4 hB04 (by rw [mendC, if_pos hb]) (by simp) rfl)
    have good : ¬ (x.Kind ≠ 0 ∧ x.Kind ≠ 1 ∧ x.Kind ≠ 2) → J (false, ()) w4 := fun hg => hJ _ _ (by
      dsimp only [cond_false]
      refine fits_spec (h.ext hB04) (by omega) (by omega) ?_
      refine cond_of (fun hf => ?_) (fun hf => ?_)
      · have hf : fitsB xs k = false := by simpa using hf
        refine ldS_of (x := x.A) (cell_a hb4.cells) ?_
        exact wr0 w4 (blankC x.A) _ ho4 hB04 (by rw [mendC, if_neg hg, if_pos hf]) rfl
      · have hf : ¬ fitsB xs k = false := by simpa using hf
        refine ldI_of kind4 ?_
        refine cond_of (fun h2 => ?_) (fun h2 => ?_)
        · have h2 := eq_of_beq h2
          exact wr w4 { x with R := 0 } 0 _ ho4 hB04 (by rw [mendC, if_neg hg, if_neg hf, if_pos h2]) (by simp) rfl
        · have h2 := beq_eq_false_iff_ne.1 h2
          have hy : mendC xs k x = x := by rw [mendC, if_neg hg, if_neg hf, if_neg h2]
          refine fin _ ?_ hB04
          rw [← mix_same hml hkl (by rw [hm, hx, hy])]
          exact ho4)
    refine ldI_of kind4 ?_
    refine cond_of (fun h0 => ?_) (fun h0 => ?_)
    · have h0 : x.Kind ≠ 0 := by simpa using h0
      refine ldI_of kind4 ?_
      refine cond_of (fun h1 => ?_) (fun h1 => ?_)
      · have h1 : x.Kind ≠ 1 := by simpa using h1
        refine ldI_of kind4 ?_
        by_cases h2 : x.Kind = 2
        · rw [show (x.Kind != 2) = false by simp [h2]]
          exact good fun hb => hb.2.2 h2
        · rw [show (x.Kind != 2) = true by simpa using h2]
          exact bad ⟨h0, h1, h2⟩
      · have h1 : x.Kind = 1 := by simpa using h1
        exact good fun hb => hb.2.1 h1
    · have h0 : x.Kind = 0 := by simpa using h0
      exact good fun hb => hb.1 h0
  · have hge := of_decide_eq_false hge
    rw [h.n] at hge
    have : k = xs.length := by omega
    subst this
    rw [mix_all hml] at ho
    exact hK r w2 ho hB

end Go.Proofs.YtmoafafalnbkpaaGreatDoor

namespace Go.Proofs.YtmoafafalnbkpaaGreatDoor
open Go.Vc Go.RowKit
theorem rightB_of {xs : List Cell} (h : ∀ i, i < xs.length → okB xs i = true) : rightB xs = true := by
  unfold rightB
  rw [List.all_eq_true]
  exact fun i hi => h i (List.mem_range.1 hi)
theorem okB_get {xs : List Cell} {k : Nat} {x : Cell} (hx : xs[k]? = some x) : okB xs k = (fitsB xs k && !(x.Kind == 2 && x.R != 0)) := by
  unfold okB
  rw [kindAt_get hx, hx]
  rfl

theorem get_of {xs : List Cell} {k : Nat} (hk : k < xs.length) : ∃ x, xs[k]? = some x ∧ ∀ h, xs[((k : Int)).toNat]'h = x :=
  ⟨xs[k], List.getElem?_eq_getElem hk, fun _ => rfl⟩

/-! ### The reference -/
theorem rblank_spec {a : Attr} {w : World} {K : Cell → World → Prop} (hK : ∀ w', Below w.heap.size w w' → w.heap.size ≤ w'.heap.size → K (blankC a) w') : c_phosphorref13_blank a w K := by
  refine call_phosphorref13_blank _ ?_
  unfold sh_phosphorref13_blank
  refine nw_blk fun w1 hb1 hB1 hs1 => nw_blk fun w2 hb2 hB2 hs2 => ?_
  refine ldS_of (x := a) (hb1.ext hB2).cells ?_
  refine stK_blk hb2 (by simp) fun w3 hb3 hg3 hs3 => ?_
  refine ldS_of (x := blankC a) hb3.cells ?_
  have hB : Below w.heap.size w w3 := (hB1.trans (hB2.mono (by omega))).grown hg3 (by omega) fun g hg => by cases hg; omega
  exact hK w3 hB hB.size

theorem rNew_spec {n : Int} {a : Attr} {w : World} {K : Slc → World → Prop}
    (hK : ∀ r w', Go.Vc.Own cellE w' w.heap.size r (newL n a) → Below w.heap.size w w' → K r w') : c_phosphorref13_New n a w K := by
  refine call_phosphorref13_New _ _ ?_
  unfold sh_phosphorref13_New
  refine nw_blk fun w1 hb1 hB1 hs1 => ?_
  refine cond_of (fun h => ?_) (fun hn => ?_)
  · have h := of_decide_eq_true h
    exact hK _ _ (by rw [newL, if_pos (.inr h)]; exact Go.Vc.Own.nil _ _ _) hB1
  have hn := of_decide_eq_false hn
  refine loopP_rule (fun (s : Slc × Int × Unit) w2 => ∃ k : Nat, s.2.1 = k ∧ (k : Int) ≤ max n 0 ∧ Go.Vc.Own cellE w2 w.heap.size s.1 (List.replicate k (blankC a)) ∧ Blk w2 w.heap.size ty_api_Attr (T_api_Attr.rep.cells a) ∧ Below w.heap.size w w2 ∧ w.heap.size < w2.heap.size ∧ (∀ g, s.1.blk = some g → w.heap.size < g))
    (fun s => (n - s.2.1).toNat) ⟨0, rfl, by omega, Go.Vc.Own.nil _ _ _, hb1, hB1, by omega, fun g hg => by cases hg⟩ ?_
  rintro ⟨s, i, _⟩ w2 ⟨k, rfl, hk, ho, hb, hB, hlt, hne⟩ I hI
  dsimp only at *
  refine cond_of (fun h => ?_) (fun h => ?_)
  · have h := of_decide_eq_true h
    refine ldS_of hb.cells ?_
    refine rblank_spec fun w2' hB2' hs2' => ?_
    refine nw_blk fun w3 hb3 hB3 hs3 => ?_
    have hB3 : Below w2.heap.size w2 w3 := hB2'.trans (hB3.mono hs2')
    have hd : Rd cellE w3 ⟨some ⟨w2'.heap.size, 0, none⟩, 1, 1⟩ [blankC a] := rd_one (E := cellE) hb3 rfl
    refine apK_own slT24 (ho.ext hB3) hd (by omega) (by rw [by24]; simp; omega) (by simp [maxLen]; omega) fun r w4 ho4 hg4 hr4 => ?_
    rw [wrap64_id (by omega)]
    have hB4 : Below w.heap.size w w4 := (hB.trans (hB3.mono (by omega))).grown hg4 (by omega) fun g hg => by
      exact ((ho.lt g hg).1)
    refine hI (r, (k : Int) + 1, ()) w4 ⟨k + 1, by simp, by omega, ?_, ?_, hB4, ?_, ?_⟩ (by simp; omega)
    · rw [List.replicate_succ']; exact ho4
    · refine (hb.ext hB3).grown hg4 fun e => ?_
      have := hne _ e.symm
      omega
    · have := hg4.size; omega
    · intro g hg
      rcases hr4 with e | e
      · rw [e] at hg; exact hne g hg
      · rw [e] at hg; cases hg; omega
  · have h := of_decide_eq_false h
    refine hK s w2 ?_ hB
    by_cases hn0 : n < 0
    · have : k = 0 := by omega
      rw [newL, if_pos (.inl hn0)]
      subst this; exact ho
    · rw [newL, if_neg (by omega)]
      have : n.toNat = k := by omega
      rw [this]; exact ho

end Go.Proofs.YtmoafafalnbkpaaGreatDoor

namespace Go.Proofs.YtmoafafalnbkpaaGreatDoor
open Go.Vc Go.RowKit
/-! ### Same -/
def sameC (x y : Cell) : Bool := (x.R == y.R) && ((x.Kind == y.Kind) && (((x.A.Fg == y.A.Fg) && ((x.A.Bg == y.A.Bg) && ((x.A.Flags == y.A.Flags) && true))) && true))
theorem sameC_iff {x y : Cell} : sameC x y = true ↔ x = y := by
  obtain ⟨r, k, f, b, g⟩ := x
  obtain ⟨r', k', f', b', g'⟩ := y
  simp only [sameC, Bool.and_true, Bool.and_eq_true, beq_iff_eq, T_api_Cell.mk.injEq, T_api_Attr.mk.injEq]

theorem Same_spec {a b : Slc} {xs ys : List Cell} {w : World} {K : Bool → World → Prop} (ha : Rd cellE w a xs) (hb : Rd cellE w b ys)
    (hK : ∀ r w', (r = true ↔ xs = ys) → Below w.heap.size w w' → w'.heap.size = w.heap.size → K r w') : c_phosphorref13_Same a b w K := by
  have hm := rd_maxLen ha
  refine call_phosphorref13_Same _ _ ?_
  unfold sh_phosphorref13_Same
  refine cond_of (fun h => ?_) (fun h => ?_)
  · have h : xs.length ≠ ys.length := by
      rw [ha.n, hb.n] at h
      have h := bne_iff_ne.1 h
      omega
    exact hK _ _ ⟨fun e => (by cases e), fun e => absurd (by rw [e]) h⟩ (Below.refl _ _) rfl
  · have h : xs.length = ys.length := by
      rw [ha.n, hb.n] at h
      have h := bne_eq_false_iff_eq.1 h
      omega
    refine loopP_rule (fun (s : Int × Unit) w2 => ∃ k : Nat, s.1 = k ∧ k ≤ xs.length ∧ (∀ i : Nat, i < k → xs[i]? = ys[i]?) ∧ Below w.heap.size w w2 ∧ w2.heap.size = w.heap.size)
      (fun s => xs.length - s.1.toNat) ⟨0, rfl, by omega, fun i hi => by omega, Below.refl _ _, rfl⟩ ?_
    rintro ⟨i, _⟩ w2 ⟨k, rfl, hk, ho, hB, hsz⟩ I hI
    dsimp only at *
    refine cond_of (fun hlt => ?_) (fun hge => ?_)
    · have hlt := of_decide_eq_true hlt
      rw [ha.n] at hlt
      have hkl : k < xs.length := by omega
      obtain ⟨x, hx, hxs⟩ := get_of hkl
      obtain ⟨y, hy, hys⟩ := get_of (xs := ys) (k := k) (by omega)
      refine (ha.ext hB).drew.ix rfl (by omega) (by omega) fun hc => ?_
      rw [hxs] at hc
      refine ldS_of (x := x) hc ?_
      refine (hb.ext hB).drew.ix rfl (by omega) (by omega) fun hc => ?_
      rw [hys] at hc
      refine ldS_of (x := y) hc ?_
      change cond (!(sameC x y)) _ _
      refine cond_of (fun e => ?_) (fun e => ?_)
      · have e : ¬ x = y := fun e' => by rw [sameC_iff.2 e'] at e; cases e
        refine hK _ _ ⟨fun e => (by cases e), fun e' => ?_⟩ hB.drew hsz
        subst e'
        rw [hx] at hy
        exact absurd (Option.some.inj hy) e
      · have e : x = y := sameC_iff.1 (by cases hq : sameC x y with
          | true => rfl
          | false => rw [hq] at e; cases e)
        rw [wrap64_id (by omega)]
        refine hI _ _ ⟨k + 1, by simp, by omega, fun i hi => ?_, hB.drew, hsz⟩ (by simp; omega)
        rcases Nat.lt_or_ge i k with h' | h'
        · exact ho i h'
        · have : i = k := by omega
          subst this
          rw [hx, hy, e]
    · have hge := of_decide_eq_false hge
      rw [ha.n] at hge
      refine hK _ _ ⟨fun _ => ?_, fun _ => rfl⟩ hB hsz
      refine List.ext_getElem? fun i => ?_
      rcases Nat.lt_or_ge i k with h' | h'
      · exact ho i h'
      · rw [List.getElem?_eq_none (by omega), List.getElem?_eq_none (by omega)]

end Go.Proofs.YtmoafafalnbkpaaGreatDoor

namespace Go.Proofs.YtmoafafalnbkpaaGreatDoor
open Go.Vc Go.RowKit
/-! ### What is reckoned -/
def halfL (xs : List Cell) (at_ : Int) : List Cell := if 0 ≤ at_ ∧ at_ < xs.length ∧ fitsB xs at_ = false then xs.set at_.toNat (blankC (xs.getD at_.toNat default).A) else xs
def halvesL (xs : List Cell) (from_ to : Int) : List Cell := halfL (halfL xs (from_ - 1)) to
def badPut (n : Nat) (col width : Int) : Prop := width < 1 ∨ width > 2 ∨ col < 0 ∨ col > n - width
instance (n : Nat) (col width : Int) : Decidable (badPut n col width) := by unfold badPut; infer_instance
def wrotL (xs : List Cell) (col r width : Int) (a : Attr) : List Cell :=
  if width = 2 then (xs.set col.toNat ⟨r, 1, a⟩).set (col + 1).toNat ⟨0, 2, a⟩ else xs.set col.toNat ⟨r, 0, a⟩
def putP (xs : List Cell) (col r width : Int) (a : Attr) : List Cell := if badPut xs.length col width then mendL xs else halvesL (wrotL (mendL xs) col r width a) col (col + width)
def manyL (n : Nat) (col k : Int) : Int := if k < 1 ∨ col < 0 ∨ col ≥ n then 0 else min k (n - col)
def insL (xs : List Cell) (col k : Int) (a : Attr) : List Cell :=
  let m := mendL xs
  let c := manyL xs.length col k
  if c = 0 then m else mendL (m.take col.toNat ++ List.replicate c.toNat (blankC a) ++ (m.take (xs.length - c.toNat)).drop col.toNat)
def delL (xs : List Cell) (col k : Int) (a : Attr) : List Cell :=
  let m := mendL xs
  let c := manyL xs.length col k
  if c = 0 then m else mendL (m.take col.toNat ++ m.drop (col + c).toNat ++ List.replicate c.toNat (blankC a))
def fillL (xs : List Cell) (lo hi : Nat) (c : Cell) : List Cell := xs.mapIdx fun i x => if lo ≤ i ∧ i < hi then c else x
def eraP (xs : List Cell) (from_ to : Int) (a : Attr) : List Cell :=
  let lo := max 0 from_
  let hi := min (xs.length : Int) to
  if lo ≥ hi then mendL xs else halvesL (fillL (mendL xs) lo.toNat hi.toNat (blankC a)) lo hi
def resL (xs : List Cell) (cols : Int) : List Cell :=
  let m := mendL xs
  let c := min 1000 (max 0 cols)
  if c ≤ xs.length then mendL (m.take c.toNat) else m ++ List.replicate (c - xs.length).toNat (blankC ⟨0, 0, 0⟩)

theorem halfL_length (xs : List Cell) (i : Int) : (halfL xs i).length = xs.length := by
  unfold halfL
  split <;> simp
theorem halvesL_length (xs : List Cell) (i j : Int) : (halvesL xs i j).length = xs.length := by rw [halvesL, halfL_length, halfL_length]
theorem wrotL_length (xs : List Cell) (c r k : Int) (a : Attr) : (wrotL xs c r k a).length = xs.length := by
  unfold wrotL
  split <;> simp
theorem fillL_length (xs : List Cell) (lo hi : Nat) (c : Cell) : (fillL xs lo hi c).length = xs.length := by simp [fillL]
theorem fillL_set {xs : List Cell} {lo k : Nat} {c : Cell} (hk : lo ≤ k) : (fillL xs lo k c).set k c = fillL xs lo (k + 1) c := by
  refine List.ext_getElem? fun i => ?_
  rw [List.getElem?_set]
  simp only [fillL, List.getElem?_mapIdx, List.length_mapIdx]
  by_cases hi : k = i
  · subst hi
    rw [if_pos rfl]
    by_cases hl : k < xs.length
    · rw [if_pos hl, List.getElem?_eq_getElem hl]
      simp [hk]
    · rw [if_neg hl, List.getElem?_eq_none (by omega)]
      rfl
  · rw [if_neg hi]
    have : (i < k + 1) = (i < k) := by apply propext; omega
    simp only [this]
theorem fillL_none (xs : List Cell) (lo : Nat) (c : Cell) : fillL xs lo lo c = xs := by
  refine List.ext_getElem? fun i => ?_
  simp only [fillL, List.getElem?_mapIdx]
  have : ¬ (lo ≤ i ∧ i < lo) := by omega
  simp [this]

/-! ### halves -/
theorem halves_spec {l : Slc} {xs : List Cell} {from_ to : Int} {w : World} {base : Nat} {K : Slc → World → Prop} (h : Go.Vc.Own cellE w base l xs) (hf : -1000000 ≤ from_ ∧ from_ ≤ 1000000)
    (hK : ∀ w', Go.Vc.Own cellE w' base l (halvesL xs from_ to) → Chg (fun k => l.blk = some k) w w' → K l w') : c_line_Line_halves l from_ to w K := by
  refine call_line_Line_halves _ _ _ ?_
  unfold sh_line_Line_halves
  refine nw_blk fun w1 hb1 hB1 hs1 => ?_
  rw [wrap64_id (x := from_ - 1) (by omega)] at hb1
  have ln : l.n = xs.length := h.rd.n
  have hne : ∀ k, l.blk = some k → k < w.heap.size := fun k hk => (h.lt k hk).2
  refine loopP_rule (fun (s : Int × Unit) w2 => ∃ k : Nat, s.1 = k ∧ k ≤ 2 ∧ Go.Vc.Own cellE w2 base l (if k = 0 then xs else if k = 1 then halfL xs (from_ - 1) else halvesL xs from_ to) ∧ Blk w2 w.heap.size ty_int [.int .i64 (from_ - 1), .int .i64 to] ∧ Chg (fun k => l.blk = some k) w w2)
    (fun s => 2 - s.1.toNat) ⟨0, rfl, by omega, h.ext hB1, hb1, Chg.of_ext hB1⟩ ?_
  rintro ⟨i, _⟩ w2 ⟨k, rfl, hk, ho, hb, hc⟩ I hI
  dsimp only at *
  refine cond_of (fun hlt => ?_) (fun hge => ?_)
  · have hlt := of_decide_eq_true hlt
    refine ⟨by omega, ?_⟩
    rw [wrap64_id (x := (k : Int) + 1) (by omega)]
    -- one round, for a list and a place
    have round : ∀ (ys zs : List Cell) (p : Int), ys.length = xs.length → Go.Vc.Own cellE w2 base l ys → zs = halfL ys p → (∀ w3, Go.Vc.Own cellE w3 base l zs → Chg (fun k => l.blk = some k) w2 w3 → I ((k : Int) + 1, ()) w3) →
        joinP (σ := Bool × Unit) (fun s_1 w3 =>
          cond s_1.1
            (ixK l p 5 fun t36 => ldS T_api_Attr.rep (t36.add 2) w3 fun t38 => ixK l p 5 fun t40 =>
             stK t40 [(.int .i32 0), (.int .i64 0), (.int .i64 t38.Fg), (.int .i64 t38.Bg), (.int .i64 t38.Flags)] w3 fun w4 => I ((k : Int) + 1, ()) w4)
            (I ((k : Int) + 1, ()) w3)) fun J2 =>
        cond (decide (p ≥ (0 : Int)))
          (cond (decide (p < ((l.n : Nat) : Int))) (c_line_Line_fits l p w2 fun t29 w5 => J2 ((!t29), ()) w5) (J2 (false, ()) w2)) (J2 (false, ()) w2) := by
      intro ys zs p hy ho hz hfin
      refine joinP_of fun J hJ => ?_
      have stay : zs = ys → J (false, ()) w2 := fun e => hJ _ _ (cond_f rfl (hfin _ (by rw [e]; exact ho) (Chg.refl _ _)))
      refine cond_of (fun h0 => ?_) (fun h0 => ?_)
      · have h0 : 0 ≤ p := of_decide_eq_true h0
        refine cond_of (fun h1 => ?_) (fun h1 => ?_)
        · have h1 := of_decide_eq_true h1
          rw [ln] at h1
          refine fits_spec ho.rd h0 (by omega) ?_
          cases hfit : fitsB ys p with
          | true => exact stay (by rw [hz, halfL, if_neg (by simp [hfit])])
          | false =>
            refine hJ _ _ (cond_t rfl ?_)
            have hpl : p.toNat < ys.length := by omega
            have hx : ys[p.toNat]? = some (ys[p.toNat]'hpl) := List.getElem?_eq_getElem _
            have hze : zs = ys.set p.toNat (blankC (ys[p.toNat]'hpl).A) := by
              rw [hz, halfL, if_pos ⟨h0, by omega, hfit⟩]
              simp [hx]
            refine ho.rd.ix rfl h0 (by omega) fun hc => ?_
            refine ldS_of (x := (ys[p.toNat]'hpl).A) (cell_a hc) ?_
            refine ho.rd.ix rfl h0 (by omega) fun hc => ?_
            refine ho.st0 hx (y := blankC (ys[p.toNat]'hpl).A) rfl fun w3 ho3 hg3 hs3 => ?_
            exact hfin _ (by rw [hze]; exact ho3) (Chg.of_grown hg3 fun k hk => hk)
        · have h1 := of_decide_eq_false h1
          rw [ln] at h1
          exact stay (by rw [hz, halfL, if_neg (by omega)])
      · have h0 := of_decide_eq_false h0
        exact stay (by rw [hz, halfL, if_neg (by omega)])
    have next : ∀ (zs : List Cell), zs = (if k + 1 = 0 then xs else if k + 1 = 1 then halfL xs (from_ - 1) else halvesL xs from_ to) → ∀ w3, Go.Vc.Own cellE w3 base l zs → Chg (fun k => l.blk = some k) w2 w3 → I ((k : Int) + 1, ()) w3 := by
      intro zs hz w3 ho3 hc3
      refine hI _ _ ⟨k + 1, by simp, by omega, by rw [← hz]; exact ho3, hb.chg hc3 (fun e => ?_), hc.trans hc3 fun i hi e => e⟩ (by simp; omega)
      have := hne _ e
      omega
    rcases (show k = 0 ∨ k = 1 by omega) with rfl | rfl
    · refine ldI_of (x := from_ - 1) (by simpa using hb.cells 0 _ rfl) ?_
      exact round xs _ _ rfl ho rfl (next _ rfl)
    · refine ldI_of (x := to) (by simpa using hb.cells 1 _ rfl) ?_
      exact round (halfL xs (from_ - 1)) _ _ (halfL_length _ _) ho rfl (next _ rfl)
  · have hge := of_decide_eq_false hge
    have : k = 2 := by omega
    subst this
    exact hK _ ho hc

/-! ### Put -/
theorem Put_spec {l : Slc} {xs : List Cell} {col r width : Int} {a : Attr} {w : World} {K : Slc → Bool → World → Prop} (h : Rd cellE w l xs) (hl : xs.length ≤ 10000)
    (hK : ∀ s w', Go.Vc.Own cellE w' w.heap.size s (putP xs col r width a) → Below w.heap.size w w' → K s (!decide (badPut xs.length col width)) w') : c_line_Line_Put l col r width a w K := by
  refine call_line_Line_Put _ _ _ _ _ ?_
  unfold sh_line_Line_Put
  refine nw_blk fun w1 hb1 hB1 hs1 => ?_
  refine Mend_spec (h.ext hB1) (by omega) fun m w2 ho2 hB2 => ?_
  have hml := mendL_length xs
  have hmn : m.n = xs.length := by have := ho2.rd.n; rwa [hml] at this
  have hln : l.n = xs.length := h.n
  have hB02 : Below w.heap.size w w2 := hB1.trans (hB2.mono (by omega))
  have hb2 := hb1.ext hB2
  have hmb : ∀ g, m.blk = some g → w.heap.size < g := fun g hg => by have := (ho2.lt g hg).1; omega
  have ho2 : Go.Vc.Own cellE w2 w.heap.size m (mendL xs) := ho2.base (by omega)
  refine joinP_of fun J1 hJ1 => joinP_of fun J3 hJ3 => ?_
  have bad : badPut xs.length col width → J3 (true, ()) w2 := fun hb => hJ3 _ _ (cond_t rfl (by
    have := hK m w2 (by rw [putP, if_pos hb]; exact ho2) hB02
    rwa [decide_eq_true hb] at this))
  have good : ¬ badPut xs.length col width → J3 (false, ()) w2 := fun hg => hJ3 _ _ (cond_f rfl (hJ1 _ _ (by
    have hbad := hg
    unfold badPut at hg
    have hx : (mendL xs)[col.toNat]? = some ((mendL xs)[col.toNat]'(by omega)) := List.getElem?_eq_getElem _
    refine ldS_of (x := a) hb2.cells ?_
    refine ho2.rd.ix rfl (by omega) (by omega) fun _ => ?_
    refine ho2.st0 hx (y := ⟨r, 0, a⟩) rfl fun w4 ho4 hg4 hs4 => ?_
    have hB04 : Below w.heap.size w w4 := hB02.grown hg4 hB02.size fun g hg => (ho2.lt g hg).1
    have hb4 := hb2.grown hg4 (fun e => by have := hmb _ e.symm; omega)
    refine joinP_of fun J2 hJ2 => ?_
    have fin : ∀ {w5 : World}, Go.Vc.Own cellE w5 w.heap.size m (wrotL (mendL xs) col r width a) → Below w.heap.size w w5 → J2 () w5 := fun {w5} ho5 hB5 => hJ2 _ _ (by
      rw [wrap64_id (x := col + width) (by omega)]
      refine halves_spec ho5 (by omega) fun w6 ho6 hc6 => ?_
      have := hK m w6 (by rw [putP, if_neg hbad]; exact ho6) (hB5.trans (hc6.below hB5.size fun i hi e => by have := hmb i e; omega))
      rwa [decide_eq_false hbad] at this)
    refine cond_of (fun h2 => ?_) (fun h2 => ?_)
    · have h2 := eq_of_beq h2
      subst h2
      refine ho4.rd.ix rfl (by omega) (by rw [List.length_set]; omega) fun _ => ?_
      refine ho4.st (x := ⟨r, 0, a⟩) (y := ⟨r, 1, a⟩) (by rw [List.getElem?_set_self (by omega)]) (j := 1) (by simp [cellE]) rfl fun w7 ho7 hg7 hs7 => ?_
      rw [List.set_set] at ho7
      have hB07 := hB04.grown hg7 hB04.size fun g hg => (ho2.lt g hg).1
      have hb7 := hb4.grown hg7 (fun e => by have := hmb _ e.symm; omega)
      refine ldS_of (x := a) hb7.cells ?_
      rw [wrap64_id (x := col + 1) (by omega)]
      refine ho7.rd.ix rfl (by omega) (by rw [List.length_set]; omega) fun _ => ?_
      refine ho7.st0 (x := ((mendL xs).set col.toNat ⟨r, 1, a⟩)[(col + 1).toNat]'(by rw [List.length_set]; omega)) (List.getElem?_eq_getElem _) (y := ⟨0, 2, a⟩) rfl fun w8 ho8 hg8 hs8 => ?_
      refine fin ?_ (hB07.grown hg8 hB07.size fun g hg => (ho2.lt g hg).1)
      rw [wrotL, if_pos rfl]
      exact ho8
    · have h2 := beq_eq_false_iff_ne.1 h2
      refine fin ?_ hB04
      rw [wrotL, if_neg h2]
      exact ho4)))
  refine cond_of (fun h1 => bad (.inl (of_decide_eq_true h1))) (fun h1 => ?_)
  refine cond_of (fun h2 => bad (.inr (.inl (of_decide_eq_true h2)))) (fun h2 => ?_)
  refine cond_of (fun h3 => bad (.inr (.inr (.inl (of_decide_eq_true h3))))) (fun h3 => ?_)
  have h1 := of_decide_eq_false h1
  have h2 := of_decide_eq_false h2
  have h3 := of_decide_eq_false h3
  rw [hln, wrap64_id (by omega)]
  by_cases h4 : col > (xs.length : Int) - width
  · rw [decide_eq_true h4]; exact bad (.inr (.inr (.inr h4)))
  · rw [decide_eq_false h4]; exact good (by unfold badPut; omega)

/-! ### many, Concat -/
theorem many_spec {l : Slc} {n : Nat} {col k : Int} {w : World} {K : Int → World → Prop} (hn : l.n = n) (hl : n ≤ 1000000) (hK : K (manyL n col k) w) : c_line_Line_many l col k w K := by
  refine call_line_Line_many _ _ _ ?_
  unfold sh_line_Line_many
  refine joinP_of fun J hJ => ?_
  rw [hn]
  have no : (k < 1 ∨ col < 0 ∨ col ≥ n) → K 0 w := fun h => by rwa [manyL, if_pos h] at hK
  refine cond_of (fun h => no (.inl (of_decide_eq_true h))) (fun h1 => ?_)
  refine cond_of (fun h => no (.inr (.inl (of_decide_eq_true h)))) (fun h2 => ?_)
  refine cond_of (fun h => no (.inr (.inr (of_decide_eq_true h)))) (fun h3 => ?_)
  have h1 := of_decide_eq_false h1
  have h2 := of_decide_eq_false h2
  have h3 := of_decide_eq_false h3
  refine hJ _ _ ?_
  rw [manyL, if_neg (by omega)] at hK
  rw [hn, wrap64_id (by omega)]
  have e : (if (n : Int) - col < k then (n : Int) - col else k) = min k (n - col) := by omega
  rw [e]
  exact hK

theorem Grow_nil {n : Int} {w : World} {K : Slc → World → Prop} (h0 : 0 ≤ n) (hn : n ≤ 1000000) (hK : ∀ r w', Go.Vc.Own cellE w' w.heap.size r [] → Below w.heap.size w w' → K r w') : c_slices_Grow_line_Line_api_Cell (⟨none, 0, 0⟩ : Slc) n w K := by
  refine call_slices_Grow_line_Line_api_Cell _ _ ?_
  unfold sh_slices_Grow_line_Line_api_Cell
  refine joinP_of fun J hJ => ?_
  refine cond_f (by simpa using h0) (hJ _ _ ?_)
  have hw : IntKind.i64.wrap (n - (IntKind.i64.wrap (((0 : Nat) : Int) - ((0 : Nat) : Int)))) = n := by
    rw [wrap64_id (x := ((0 : Nat) : Int) - ((0 : Nat) : Int)) (by omega), wrap64_id (by omega)]
    omega
  simp only [hw]
  refine cond_of (fun h => ?_) (fun h => ?_)
  · have h := of_decide_eq_true h
    refine bnd_some (by omega) (by omega) (bnd_none ?_)
    refine apM_nil slT25 (kk := .i64) (by kernel_rfl) (n := n.toNat) (by omega) (by omega) (by simp only [maxLen]; omega) (by rw [by25]; omega) fun cap w' h1 h2 ho hB => ?_
    refine bnd_some (by omega) (by simp) (bnd_none ?_)
    have e : cut (some ⟨w.heap.size, 0, none⟩) 0 cap 5 = some ⟨w.heap.size, 0, none⟩ := by
      unfold cut
      split
      · rfl
      · simp
    show K ⟨cut (some ⟨w.heap.size, 0, none⟩) 0 cap 5, 0, cap⟩ w'
    rw [e]
    exact hK _ _ ho hB
  · exact hK _ _ (Go.Vc.Own.nil _ _ _) (Below.refl _ _)

/-- A list of slices as a row. -/
def slE : El Slc where
  cells s := [.slice s.a s.n s.c]
  t := ty_line_Line
  k := 1
  pos := by decide
  len _ := rfl
  one x v hv := by
    simp only [List.mem_cons, List.mem_nil_iff, or_false] at hv
    rcases hv with rfl
    rfl

/-- Many slices that read as many lists. -/
def RdAll (w : World) (ss : List Slc) (xss : List (List Cell)) : Prop := ss.length = xss.length ∧ ∀ (i : Nat) s xs, ss[i]? = some s → xss[i]? = some xs → Rd cellE w s xs

theorem sum_take_le (xss : List (List Cell)) (k : Nat) : (xss.take k).flatten.length ≤ xss.flatten.length := by
  conv => rhs; rw [← List.take_append_drop k xss]
  rw [List.flatten_append, List.length_append]
  omega
theorem flatten_take {xss : List (List Cell)} {k : Nat} {xs : List Cell} (h : xss[k]? = some xs) : (xss.take (k + 1)).flatten = (xss.take k).flatten ++ xs := by
  rw [List.take_add_one, h]
  simp

theorem Concat_spec {p : Slc} {ss : List Slc} {xss : List (List Cell)} {w : World} {K : Slc → World → Prop} (hp : Rd slE w p ss) (hss : RdAll w ss xss) (hl : xss.flatten.length ≤ 1000000) (hn : ss.length ≤ 1000000)
    (hK : ∀ r w', Go.Vc.Own cellE w' w.heap.size r xss.flatten → Below w.heap.size w w' → K r w') : c_slices_Concat_line_Line_api_Cell p w K := by
  refine call_slices_Concat_line_Line_api_Cell _ ?_
  unfold sh_slices_Concat_line_Line_api_Cell
  have hpn := hp.n
  obtain ⟨hsl, hss⟩ := hss
  refine loopP_rule (fun (s : Int × Int × Unit) w2 => ∃ k : Nat, s.2.1 = k ∧ k ≤ ss.length ∧ s.1 = ((xss.take k).flatten.length : Nat) ∧ w2 = w) (fun s => ss.length - s.2.1.toNat) ⟨0, rfl, by omega, rfl, rfl⟩ ?_
  rintro ⟨t, i, _⟩ w2 ⟨k, rfl, hk, rfl, rfl⟩ I hI
  dsimp only at *
  have hle := sum_take_le xss
  refine cond_of (fun hlt => ?_) (fun hge => ?_)
  · have hlt := of_decide_eq_true hlt
    rw [hpn] at hlt
    have hkl : k < ss.length := by omega
    have hx : ss[k]? = some ss[k] := List.getElem?_eq_getElem hkl
    have hy : xss[k]? = some (xss[k]'(by omega)) := List.getElem?_eq_getElem _
    refine hp.ix rfl (by omega) (by omega) fun hc => ?_
    refine ldSl_of (x := ss[k]) (by simpa using hc 0 _ rfl) ?_
    have hr := hss k _ _ hx hy
    have hrn := hr.n
    have hf := flatten_take hy
    have h1 := hle (k + 1)
    rw [hf, List.length_append] at h1
    rw [hrn, wrap64_id (by omega)]
    refine cond_f (by simp; omega) ?_
    rw [wrap64_id (by omega)]
    exact hI _ _ ⟨k + 1, by simp, by omega, by rw [hf]; simp, rfl⟩ (by simp; omega)
  · have hge := of_decide_eq_false hge
    rw [hpn] at hge
    have : k = ss.length := by omega
    subst this
    have h1 := hle ss.length
    refine Grow_nil (by omega) (by omega) fun g w3 ho3 hB3 => ?_
    refine loopP_rule (fun (s : Slc × Int × Unit) w4 => ∃ k : Nat, s.2.1 = k ∧ k ≤ ss.length ∧ Go.Vc.Own cellE w4 w2.heap.size s.1 ((xss.take k).flatten) ∧ Below w2.heap.size w2 w4) (fun s => ss.length - s.2.1.toNat) ⟨0, rfl, by omega, by simpa using ho3, hB3⟩ ?_
    rintro ⟨t, i, _⟩ w4 ⟨k, rfl, hk, ho, hB⟩ I2 hI2
    dsimp only at *
    refine cond_of (fun hlt => ?_) (fun hge => ?_)
    · have hlt := of_decide_eq_true hlt
      rw [hpn] at hlt
      have hkl : k < ss.length := by omega
      have hx : ss[k]? = some ss[k] := List.getElem?_eq_getElem hkl
      have hy : xss[k]? = some (xss[k]'(by omega)) := List.getElem?_eq_getElem _
      refine (hp.ext hB).ix rfl (by omega) (by omega) fun hc => ?_
      refine ldSl_of (x := ss[k]) (by simpa using hc 0 _ rfl) ?_
      have hr := (hss k _ _ hx hy).ext hB
      have hf := flatten_take hy
      have h1 := hle (k + 1)
      rw [hf, List.length_append] at h1
      refine apK_own slT25 ho hr hB.size (by rw [by25]; omega) (by simp only [maxLen]; omega) fun r w5 ho5 hg5 hr5 => ?_
      rw [wrap64_id (by omega)]
      exact hI2 _ _ ⟨k + 1, by simp, by omega, by rw [hf]; exact ho5, hB.grown hg5 hB.size fun g hg => (ho.lt g hg).1⟩ (by simp; omega)
    · have hge := of_decide_eq_false hge
      rw [hpn] at hge
      have : k = ss.length := by omega
      subst this
      rw [hsl, List.take_length] at ho
      exact hK _ _ ho hB

/-! ### Insert, Delete, Erase, Resize -/
theorem manyL_bounds {n : Nat} {col k : Int} : 0 ≤ manyL n col k ∧ (manyL n col k ≠ 0 → 0 ≤ col ∧ col + manyL n col k ≤ n) := by
  unfold manyL
  split
  · exact ⟨Int.le_refl _, fun h => absurd rfl h⟩
  · exact ⟨by omega, fun _ => ⟨by omega, by omega⟩⟩

theorem rdAll3 {w : World} {a b c : Slc} {xs ys zs : List Cell} (ha : Rd cellE w a xs) (hb : Rd cellE w b ys) (hc : Rd cellE w c zs) : RdAll w [a, b, c] [xs, ys, zs] := by
  refine ⟨rfl, fun i s l hs hl => ?_⟩
  match i, hs, hl with
  | 0, hs, hl => cases hs; cases hl; exact ha
  | 1, hs, hl => cases hs; cases hl; exact hb
  | 2, hs, hl => cases hs; cases hl; exact hc
  | i + 3, hs, hl => cases hs
theorem rdAll2 {w : World} {a b : Slc} {xs ys : List Cell} (ha : Rd cellE w a xs) (hb : Rd cellE w b ys) : RdAll w [a, b] [xs, ys] := by
  refine ⟨rfl, fun i s l hs hl => ?_⟩
  match i, hs, hl with
  | 0, hs, hl => cases hs; cases hl; exact ha
  | 1, hs, hl => cases hs; cases hl; exact hb
  | i + 2, hs, hl => cases hs
/-- A row that was laid for a list of arguments. -/
theorem rd_lits {T : Type} {E : El T} {w : World} {g : Nat} {ys : List T} {vs : List Value} (hb : Blk w g E.t vs) (hm : ys.length ≤ maxLen) (hy : flat E ys = vs) : Rd E w ⟨some ⟨g, 0, none⟩, ys.length, ys.length⟩ ys :=
  (Go.Vc.Own.of_blk (E := E) (base := 0) (Nat.zero_le _) hb (Nat.le_refl _) hm (by rw [← hy, flat_length]) (by rw [← hy, List.take_of_length_le (by rw [flat_length]; exact Nat.le_refl _)])).rd

theorem Insert_spec {l : Slc} {xs : List Cell} {col k : Int} {a : Attr} {w : World} {K : Slc → World → Prop} (h : Rd cellE w l xs) (hl : xs.length ≤ 10000)
    (hK : ∀ s w', Go.Vc.Own cellE w' w.heap.size s (insL xs col k a) → Below w.heap.size w w' → K s w') : c_line_Line_Insert l col k a w K := by
  refine call_line_Line_Insert _ _ _ _ ?_
  unfold sh_line_Line_Insert
  refine nw_blk fun w1 hb1 hB1 hs1 => ?_
  refine Mend_spec (h.ext hB1) (by omega) fun m w2 ho2 hB2 => ?_
  have hml := mendL_length xs
  have hln : l.n = xs.length := h.n
  have hB02 : Below w.heap.size w w2 := hB1.trans (hB2.mono (by omega))
  have hb2 := hb1.ext hB2
  have ho2 : Go.Vc.Own cellE w2 w.heap.size m (mendL xs) := ho2.base (by omega)
  obtain ⟨hc0, hc1⟩ := manyL_bounds (n := xs.length) (col := col) (k := k)
  refine many_spec hln (by omega) ?_
  unfold insL at hK
  generalize manyL xs.length col k = c at *
  refine cond_of (fun e => ?_) (fun e => ?_)
  · have e := eq_of_beq e
    simp only [if_pos e] at hK
    exact hK _ _ ho2 hB02
  · have e := beq_eq_false_iff_ne.1 e
    simp only [if_neg e] at hK
    obtain ⟨hc1, hc2⟩ := hc1 e
    refine ho2.rd.slK (l := 0) (m := col.toNat) rfl (.inl ⟨rfl, rfl⟩) (.inr (by simp; omega)) (by omega) (by omega) fun hp => ?_
    refine ldS_of (x := a) hb2.drew.cells ?_
    rw [hln, wrap64_id (by omega)]
    refine ho2.rd.slK (l := col.toNat) (m := xs.length - c.toNat) rfl (.inr (by simp; omega)) (.inr (by simp; omega)) (by omega) (by omega) fun hq => ?_
    refine blanks_spec (by omega) fun b w4 ho4 hB4 => ?_
    have hB04 : Below w.heap.size w w4 := hB02.drew.trans (hB4.mono hB02.size)
    refine nw_blk fun w5 hb5 hB5 hs5 => ?_
    have hB05 : Below w.heap.size w w5 := hB04.trans (hB5.mono hB04.size)
    have hB45 : Below w2.drew.heap.size w2.drew w5 := hB4.trans (hB5.mono hB4.size)
    have hA := rdAll3 (hp.drew.ext hB45) (ho4.rd.ext hB5) (hq.drew.ext hB45)
    refine Concat_spec ?_ hA ?_ (by simp) fun r w6 ho6 hB6 => ?_
    · exact rd_lits (E := slE) (ys := [_, _, _]) hb5 (by simp [maxLen]) rfl
    · simp only [List.flatten_cons, List.flatten_nil, List.length_append, List.length_nil, List.length_drop, List.length_take, List.length_replicate]
      omega
    have hB06 : Below w.heap.size w w6 := hB05.trans (hB6.mono hB05.size)
    refine Mend_spec ho6.rd ?_ fun s w7 ho7 hB7 => ?_
    · simp only [List.flatten_cons, List.flatten_nil, List.length_append, List.length_nil, List.length_drop, List.length_take, List.length_replicate]
      omega
    refine hK s w7 ?_ (hB06.trans (hB7.mono hB06.size))
    simp only [List.flatten_cons, List.flatten_nil, List.append_nil, List.drop_zero, ← List.append_assoc] at ho7
    exact ho7.base hB06.size

theorem Delete_spec {l : Slc} {xs : List Cell} {col k : Int} {a : Attr} {w : World} {K : Slc → World → Prop} (h : Rd cellE w l xs) (hl : xs.length ≤ 10000)
    (hK : ∀ s w', Go.Vc.Own cellE w' w.heap.size s (delL xs col k a) → Below w.heap.size w w' → K s w') : c_line_Line_Delete l col k a w K := by
  refine call_line_Line_Delete _ _ _ _ ?_
  unfold sh_line_Line_Delete
  refine nw_blk fun w1 hb1 hB1 hs1 => ?_
  refine Mend_spec (h.ext hB1) (by omega) fun m w2 ho2 hB2 => ?_
  have hml := mendL_length xs
  have hln : l.n = xs.length := h.n
  have hB02 : Below w.heap.size w w2 := hB1.trans (hB2.mono (by omega))
  have hb2 := hb1.ext hB2
  have ho2 : Go.Vc.Own cellE w2 w.heap.size m (mendL xs) := ho2.base (by omega)
  obtain ⟨hc0, hc1⟩ := manyL_bounds (n := xs.length) (col := col) (k := k)
  refine many_spec hln (by omega) ?_
  unfold delL at hK
  generalize manyL xs.length col k = c at *
  refine cond_of (fun e => ?_) (fun e => ?_)
  · have e := eq_of_beq e
    simp only [if_pos e] at hK
    exact hK _ _ ho2 hB02
  · have e := beq_eq_false_iff_ne.1 e
    simp only [if_neg e] at hK
    obtain ⟨hc1, hc2⟩ := hc1 e
    refine ho2.rd.slK (l := 0) (m := col.toNat) rfl (.inl ⟨rfl, rfl⟩) (.inr (by simp; omega)) (by omega) (by omega) fun hp => ?_
    rw [wrap64_id (by omega)]
    refine ho2.rd.slK (l := (col + c).toNat) (m := (mendL xs).length) rfl (.inr (by simp; omega)) (.inl ⟨rfl, rfl⟩) (by omega) (by omega) fun hq => ?_
    refine ldS_of (x := a) hb2.drew.cells ?_
    refine blanks_spec (by omega) fun b w4 ho4 hB4 => ?_
    have hB04 : Below w.heap.size w w4 := hB02.drew.trans (hB4.mono hB02.size)
    refine nw_blk fun w5 hb5 hB5 hs5 => ?_
    have hB05 : Below w.heap.size w w5 := hB04.trans (hB5.mono hB04.size)
    have hB45 : Below w2.drew.heap.size w2.drew w5 := hB4.trans (hB5.mono hB4.size)
    have hA := rdAll3 (hp.drew.ext hB45) (hq.drew.ext hB45) (ho4.rd.ext hB5)
    refine Concat_spec ?_ hA ?_ (by simp) fun r w6 ho6 hB6 => ?_
    · exact rd_lits (E := slE) (ys := [_, _, _]) hb5 (by simp [maxLen]) rfl
    · simp only [List.flatten_cons, List.flatten_nil, List.length_append, List.length_nil, List.length_drop, List.length_take, List.length_replicate]
      omega
    have hB06 : Below w.heap.size w w6 := hB05.trans (hB6.mono hB05.size)
    refine Mend_spec ho6.rd ?_ fun s w7 ho7 hB7 => ?_
    · simp only [List.flatten_cons, List.flatten_nil, List.length_append, List.length_nil, List.length_drop, List.length_take, List.length_replicate]
      omega
    refine hK s w7 ?_ (hB06.trans (hB7.mono hB06.size))
    simp only [List.flatten_cons, List.flatten_nil, List.append_nil, List.drop_zero, List.take_length, ← List.append_assoc] at ho7
    exact ho7.base hB06.size

theorem Resize_spec {l : Slc} {xs : List Cell} {cols : Int} {w : World} {K : Slc → World → Prop} (h : Rd cellE w l xs) (hl : xs.length ≤ 10000)
    (hK : ∀ s w', Go.Vc.Own cellE w' w.heap.size s (resL xs cols) → Below w.heap.size w w' → K s w') : c_line_Line_Resize l cols w K := by
  refine call_line_Line_Resize _ _ ?_
  unfold sh_line_Line_Resize
  refine Mend_spec h (by omega) fun m w2 ho2 hB2 => ?_
  have hml := mendL_length xs
  have hmn : m.n = xs.length := by have := ho2.rd.n; rwa [hml] at this
  have e1 : (if (0 : Int) > cols then (0 : Int) else cols) = max 0 cols := by omega
  have e2 : (if (1000 : Int) < max 0 cols then (1000 : Int) else max 0 cols) = min 1000 (max 0 cols) := by omega
  rw [e1, e2, hmn]
  unfold resL at hK
  have hc : 0 ≤ min 1000 (max 0 cols) := by omega
  have hc' : min 1000 (max 0 cols) ≤ 1000 := by omega
  generalize min 1000 (max 0 cols) = c at *
  refine cond_of (fun e => ?_) (fun e => ?_)
  · have e := of_decide_eq_true e
    simp only [if_pos e] at hK
    refine ho2.rd.slK (l := 0) (m := c.toNat) rfl (.inl ⟨rfl, rfl⟩) (.inr (by simp; omega)) (by omega) (by omega) fun hp => ?_
    refine Mend_spec hp ?_ fun s w3 ho3 hB3 => hK s w3 ?_ (hB2.trans (hB3.mono hB2.size))
    · simp; omega
    · rw [List.drop_zero] at ho3
      exact ho3.base hB2.size
  · have e := of_decide_eq_false e
    simp only [if_neg e] at hK
    rw [wrap64_id (by omega)]
    refine blanks_spec (by omega) fun b w3 ho3 hB3 => ?_
    have hB03 : Below w.heap.size w w3 := hB2.trans (hB3.mono hB2.size)
    refine nw_blk fun w5 hb5 hB5 hs5 => ?_
    have hB05 : Below w.heap.size w w5 := hB03.trans (hB5.mono hB03.size)
    have hA := rdAll2 ((ho2.rd.ext hB3).ext hB5) (ho3.rd.ext hB5)
    refine Concat_spec ?_ hA ?_ (by simp) fun r w6 ho6 hB6 => ?_
    · exact rd_lits (E := slE) (ys := [_, _]) hb5 (by simp [maxLen]) (by rw [← hmn]; rfl)
    · simp only [List.flatten_cons, List.flatten_nil, List.length_append, List.length_nil, List.length_replicate]
      omega
    refine hK r w6 ?_ (hB05.trans (hB6.mono hB05.size))
    simp only [List.flatten_cons, List.flatten_nil, List.append_nil] at ho6
    exact ho6.base hB05.size

theorem Erase_spec {l : Slc} {xs : List Cell} {from_ to : Int} {a : Attr} {w : World} {K : Slc → World → Prop} (h : Rd cellE w l xs) (hl : xs.length ≤ 10000)
    (hK : ∀ s w', Go.Vc.Own cellE w' w.heap.size s (eraP xs from_ to a) → Below w.heap.size w w' → K s w') : c_line_Line_Erase l from_ to a w K := by
  refine call_line_Line_Erase _ _ _ _ ?_
  unfold sh_line_Line_Erase
  refine nw_blk fun w1 hb1 hB1 hs1 => ?_
  refine Mend_spec (h.ext hB1) (by omega) fun m w2 ho2 hB2 => ?_
  have hml := mendL_length xs
  have hln : l.n = xs.length := h.n
  have hB02 : Below w.heap.size w w2 := hB1.trans (hB2.mono (by omega))
  have hb2 := hb1.ext hB2
  have hmb : ∀ g, m.blk = some g → w.heap.size < g := fun g hg => by have := (ho2.lt g hg).1; omega
  have ho2 : Go.Vc.Own cellE w2 w.heap.size m (mendL xs) := ho2.base (by omega)
  have e1 : (if (0 : Int) > from_ then (0 : Int) else from_) = max 0 from_ := by omega
  have e2 : (if ((l.n : Nat) : Int) < to then ((l.n : Nat) : Int) else to) = min (xs.length : Int) to := by rw [hln]; omega
  rw [e1, e2]
  unfold eraP at hK
  have hlo : 0 ≤ max 0 from_ := by omega
  have hhi : min (xs.length : Int) to ≤ xs.length := by omega
  generalize max 0 from_ = lo at *
  generalize min (xs.length : Int) to = hi at *
  refine cond_of (fun e => ?_) (fun e => ?_)
  · have e := of_decide_eq_true e
    simp only [if_pos e] at hK
    exact hK _ _ ho2 hB02
  · have e := of_decide_eq_false e
    simp only [if_neg e] at hK
    refine loopP_rule (fun (s : Int × Unit) w3 => ∃ k : Nat, s.1 = k ∧ lo.toNat ≤ k ∧ k ≤ hi.toNat ∧ Go.Vc.Own cellE w3 w.heap.size m (fillL (mendL xs) lo.toNat k (blankC a)) ∧ Blk w3 w.heap.size ty_api_Attr (T_api_Attr.rep.cells a) ∧ Below w.heap.size w w3)
      (fun s => hi.toNat - s.1.toNat) ⟨lo.toNat, by simp; omega, by omega, by omega, by rw [fillL_none]; exact ho2, hb2, hB02⟩ ?_
    rintro ⟨i, _⟩ w3 ⟨k, rfl, hk1, hk2, ho, hb, hB⟩ I hI
    dsimp only at *
    have hfl := fillL_length (mendL xs) lo.toNat k (blankC a)
    refine cond_of (fun hlt => ?_) (fun hge => ?_)
    · have hlt := of_decide_eq_true hlt
      refine ldS_of (x := a) hb.cells ?_
      refine ho.rd.ix rfl (by omega) (by omega) fun _ => ?_
      refine ho.st0 (x := (fillL (mendL xs) lo.toNat k (blankC a))[((k : Int)).toNat]'(by omega)) (List.getElem?_eq_getElem _) (y := blankC a) rfl fun w4 ho4 hg4 hs4 => ?_
      rw [wrap64_id (by omega)]
      refine hI _ _ ⟨k + 1, by simp, by omega, by omega, ?_, hb.grown hg4 (fun e => by have := hmb _ e.symm; omega), hB.grown hg4 hB.size fun g hg => (ho.lt g hg).1⟩ (by simp; omega)
      rw [show ((k : Int)).toNat = k from rfl, fillL_set hk1] at ho4
      exact ho4
    · have hge := of_decide_eq_false hge
      have : k = hi.toNat := by omega
      subst this
      refine halves_spec ho (by omega) fun w6 ho6 hc6 => ?_
      exact hK m w6 ho6 (hB.trans (hc6.below hB.size fun i hi e => by have := hmb i e; omega))

end Go.Proofs.YtmoafafalnbkpaaGreatDoor

namespace Go.Proofs.YtmoafafalnbkpaaGreatDoor
open Go.Vc Go.RowKit
end Go.Proofs.YtmoafafalnbkpaaGreatDoor

namespace Go.Proofs.YtmoafafalnbkpaaGreatDoor
open Go.Vc Go.RowKit
def byteE : El UInt8 where
  cells b := [.int .u8 b.toNat]
  t := ty_uint8
  k := 1
  pos := by decide
  len _ := rfl
  one x v hv := by
    simp only [List.mem_cons, List.mem_nil_iff, or_false] at hv
    rcases hv with rfl
    rfl
def runeE : El Int where
  cells r := [.int .i32 r]
  t := ty_int32
  k := 1
  pos := by decide
  len _ := rfl
  one x v hv := by
    simp only [List.mem_cons, List.mem_nil_iff, or_false] at hv
    rcases hv with rfl
    rfl
noncomputable def slT34 : SlT PG byteE ty_sl_uint8 where
  ht := by kernel_rfl
  i := (PG.info? ty_uint8).getD default
  hi := by kernel_rfl
  z := .int .u8 0
  hz := by kernel_rfl
  hs := by kernel_rfl
  hzs := rfl
theorem by34 : slT34.i.bytes = 1 := by kernel_rfl

/-! ### What is reckoned -/
def validR (r : Int) : Bool := decide (0 ≤ r) && decide (r ≤ 1114111) && (decide (r < 55296) || decide (r > 57343))
def contL : Nat → Int → List UInt8
  | 0, _ => []
  | m + 1, v => u8 (128 + v / 64 ^ m % 64) :: contL m v
def encV (v : Int) : List UInt8 :=
  if v < 128 then [u8 v] else if v < 2048 then u8 (192 + v / 64) :: contL 1 v else if v < 65536 then u8 (224 + v / 4096) :: contL 2 v else u8 (240 + v / 262144) :: contL 3 v
def fixR (r : Int) : Int := if validR r = true then r else 65533
def encR (r : Int) : List UInt8 := encV (fixR r)
theorem validR_fix (r : Int) : validR (fixR r) = true := by
  unfold fixR
  split
  · assumption
  · decide
theorem validR_iff {r : Int} : validR r = true ↔ 0 ≤ r ∧ r ≤ 1114111 ∧ (r < 55296 ∨ r > 57343) := by
  unfold validR
  rw [Bool.and_eq_true, Bool.and_eq_true, Bool.or_eq_true, decide_eq_true_iff, decide_eq_true_iff, decide_eq_true_iff, decide_eq_true_iff, and_assoc]

theorem Is_spec {r : Int} {w : World} {K : Bool → World → Prop} (hK : K (validR r) w) : c_utf_Is r w K := by
  refine call_utf_Is _ ?_
  unfold sh_utf_Is
  have no : validR r ≠ true → K false w := fun h => by
    rwa [Bool.eq_false_iff.2 h] at hK
  refine cond_of (fun h1 => cond_of (fun h2 => cond_of (fun h3 => ?_) (fun h3 => ?_)) (fun h2 => ?_)) (fun h1 => ?_)
  · have h1 := of_decide_eq_true h1
    have h2 := of_decide_eq_true h2
    have h3 := of_decide_eq_true h3
    rwa [validR_iff.2 ⟨h1, h2, .inl h3⟩] at hK
  · have h1 := of_decide_eq_true h1
    have h2 := of_decide_eq_true h2
    have h3 := of_decide_eq_false h3
    by_cases h4 : r > 57343
    · rw [validR_iff.2 ⟨h1, h2, .inr h4⟩] at hK
      rwa [decide_eq_true h4]
    · rw [decide_eq_false h4]
      exact no fun h => by have := validR_iff.1 h; omega
  · have h2 := of_decide_eq_false h2
    exact no fun h => by have := validR_iff.1 h; omega
  · have h1 := of_decide_eq_false h1
    exact no fun h => by have := validR_iff.1 h; omega

/-! ### Bits -/
theorem wrap32_id {x : Int} (h : -2147483648 ≤ x ∧ x ≤ 2147483647) : IntKind.i32.wrap x = x := by
  rw [IntKind.wrap_i32]; omega
theorem ofInt32 (a : Nat) (ha : a < 2147483648) : (BitVec.ofInt 32 (a : Int)).toNat = a := by
  rw [BitVec.toNat_ofInt]
  omega
theorem or32 (a b : Nat) (ha : a < 2147483648) (hb : b < 2147483648) : bitsR .or .i32 (a : Int) (b : Int) = ((a ||| b : Nat) : Int) := by
  show IntKind.i32.wrap ((BitVec.ofInt 32 (a : Int) ||| BitVec.ofInt 32 (b : Int)).toNat : Int) = _
  rw [BitVec.toNat_or, ofInt32 a ha, ofInt32 b hb]
  have := Nat.or_lt_two_pow (n := 31) (x := a) (y := b) (by omega) (by omega)
  exact wrap32_id (by omega)
theorem and32 (a b : Nat) (ha : a < 2147483648) (hb : b < 2147483648) : bitsR .and .i32 (a : Int) (b : Int) = ((a &&& b : Nat) : Int) := by
  show IntKind.i32.wrap ((BitVec.ofInt 32 (a : Int) &&& BitVec.ofInt 32 (b : Int)).toNat : Int) = _
  rw [BitVec.toNat_and, ofInt32 a ha, ofInt32 b hb]
  have := Nat.and_lt_two_pow (n := 31) a (y := b) (by omega)
  exact wrap32_id (by omega)
theorem or32_add (i : Nat) (x y : Int) (hx0 : 0 ≤ x) (hy0 : 0 ≤ y) (hx : x.toNat % 2 ^ i = 0) (hy : y.toNat < 2 ^ i) (hx1 : x < 2147483648) (hy1 : y < 2147483648) : bitsR .or .i32 x y = x + y := by
  obtain ⟨a, rfl⟩ := Int.eq_ofNat_of_zero_le hx0
  obtain ⟨b, rfl⟩ := Int.eq_ofNat_of_zero_le hy0
  rw [or32 a b (by omega) (by omega), nat_join i a b (by simpa using hx) (by simpa using hy)]
  simp
theorem and32_63 (x : Int) (hx0 : 0 ≤ x) (hx1 : x < 2147483648) : bitsR .and .i32 x 63 = x % 64 := by
  obtain ⟨a, rfl⟩ := Int.eq_ofNat_of_zero_le hx0
  have := and32 a 63 (by omega) (by omega)
  rw [show ((63 : Nat) : Int) = 63 from rfl] at this
  rw [this, nat_mask6]
  omega
theorem shr6 {m : Nat} (hm : m ≤ 3) {v : Int} (_hv : 0 ≤ v) : v.fdiv (2 ^ (min (IntKind.i64.wrap (6 * (m : Int))).toNat IntKind.i32.bits)) = v / 64 ^ m := by
  rw [wrap64_id (by omega)]
  have e1 : (6 * (m : Int)).toNat = 6 * m := by omega
  have e2 : min (6 * m) IntKind.i32.bits = 6 * m := by
    show min (6 * m) 32 = _
    omega
  have e3 : (2 : Int) ^ (6 * m) = 64 ^ m := by rw [Int.pow_mul]; rfl
  rw [e1, e2, e3]
  exact Int.fdiv_eq_ediv_of_nonneg _ (Int.le_of_lt (Int.pow_pos (by decide)))

/-- The head of a character's bytes. -/
theorem lead_or {m : Nat} (hm : m ≤ 3) {v : Int} (hv : 0 ≤ v) (hb : v < [128, 2048, 65536, 2097152].getD m 0) :
    bitsR .or .i32 ([0, 192, 224, 240].getD m 0) (v / 64 ^ m) = ([0, 192, 224, 240].getD m 0) + v / 64 ^ m := by
  match m, hm with
  | 0, _ =>
    simp only [List.getD_cons_zero] at hb ⊢
    simp only [Int.pow_zero, Int.ediv_one]
    exact or32_add 7 0 v (by omega) hv (by decide) (by omega) (by omega) (by omega)
  | 1, _ =>
    simp only [List.getD_cons_succ, List.getD_cons_zero] at hb ⊢
    exact or32_add 5 192 _ (by omega) (by omega) (by decide) (by omega) (by omega) (by omega)
  | 2, _ =>
    simp only [List.getD_cons_succ, List.getD_cons_zero] at hb ⊢
    exact or32_add 4 224 _ (by omega) (by omega) (by decide) (by omega) (by omega) (by omega)
  | 3, _ =>
    simp only [List.getD_cons_succ, List.getD_cons_zero] at hb ⊢
    exact or32_add 3 240 _ (by omega) (by omega) (by decide) (by omega) (by omega) (by omega)

theorem div64_bd (m : Nat) {v : Int} (hv : 0 ≤ v) (hb : v ≤ 1114111) : 0 ≤ v / 64 ^ m ∧ v / 64 ^ m ≤ 1114111 := by
  have hp : (0 : Int) < 64 ^ m := Int.pow_pos (by decide)
  exact ⟨Int.ediv_nonneg hv (Int.le_of_lt hp), Int.le_trans (Int.ediv_le_self _ hv) hb⟩

/-- A byte that is laid for an append. -/
theorem byte_one {w : World} {g : Nat} {x : Int} (h : 0 ≤ x ∧ x < 256) (hb : Blk w g ty_uint8 [.int .u8 (IntKind.u8.wrap x)]) : Rd byteE w ⟨some ⟨g, 0, none⟩, 1, 1⟩ [u8 x] := by
  refine rd_one (E := byteE) hb ?_
  show [Value.int .u8 ((u8 x).toNat : Int)] = _
  rw [u8_toNat h.1 h.2, IntWalk.u8_in _ (by omega)]

theorem encV_length (v : Int) : (encV v).length ≤ 4 := by
  unfold encV
  split
  · simp
  · split
    · simp [contL]
    · split <;> simp [contL]

theorem Encode_spec {l : Slc} {xs : List Int} {w : World} {K : Slc → World → Prop} (h : Rd runeE w l xs) (hl : xs.length ≤ 100000)
    (hK : ∀ r w', Go.Vc.Own byteE w' w.heap.size r (xs.flatMap encR) → Below w.heap.size w w' → K r w') : c_utf_Encode l w K := by
  refine call_utf_Encode _ ?_
  unfold sh_utf_Encode
  refine loopP_rule (fun (s : Slc × Int × Unit) w2 => ∃ k : Nat, s.2.1 = k ∧ k ≤ xs.length ∧ Go.Vc.Own byteE w2 w.heap.size s.1 ((xs.take k).flatMap encR) ∧ ((xs.take k).flatMap encR).length ≤ 4 * k ∧ Below w.heap.size w w2)
    (fun s => xs.length - s.2.1.toNat) ⟨0, rfl, by omega, by simpa using Go.Vc.Own.nil _ _ _, by simp, Below.refl _ _⟩ ?_
  rintro ⟨s, i, _⟩ w2 ⟨k, rfl, hk, ho, hlen, hB⟩ I hI
  dsimp only at *
  refine cond_of (fun hlt => ?_) (fun hge => ?_)
  · have hlt := of_decide_eq_true hlt
    rw [h.n] at hlt
    have hkl : k < xs.length := by omega
    obtain ⟨x, hx⟩ : ∃ x, xs[k]? = some x := ⟨xs[k], List.getElem?_eq_getElem hkl⟩
    have htake : xs.take (k + 1) = xs.take k ++ [x] := by
      rw [List.take_add_one, hx]; rfl
    refine (h.ext hB).ix rfl (by omega) (by omega) fun hc => ?_
    have hxs : xs[((k : Int)).toNat]'(by omega) = x := by
      have := List.getElem?_eq_getElem hkl
      rw [hx] at this
      exact (Option.some.inj this).symm
    rw [hxs] at hc
    refine ldI_of (x := x) (by have := hc 0 _ rfl; rwa [add_zero] at this) ?_
    refine joinP_of fun J2 hJ2 => ?_
    -- the character is known
    have main : J2 (fixR x, ()) w2 := hJ2 _ _ (by
      dsimp only
      obtain ⟨hv0, hv1, _⟩ := validR_iff.1 (validR_fix x)
      have henc : encR x = encV (fixR x) := rfl
      generalize fixR x = v at *
      refine joinP_of fun J3 hJ3 => ?_
      -- the head and what follows
      have go : ∀ m : Nat, m ≤ 3 → v < [128, 2048, 65536, 2097152].getD m 0 → encV v = u8 (([0, 192, 224, 240].getD m 0) + v / 64 ^ m) :: contL m v → J3 ((m : Int), [0, 192, 224, 240].getD m 0, ()) w2 := fun m hm hb he => hJ3 _ _ (by
        dsimp only
        rw [shr6 hm hv0, lead_or hm hv0 hb]
        refine ⟨by rw [wrap64_id (by omega)]; omega, ?_⟩
        have hlead : 0 ≤ ([0, 192, 224, 240].getD m 0) + v / 64 ^ m ∧ ([0, 192, 224, 240].getD m 0) + v / 64 ^ m < 256 := by
          match m, hm with
          | 0, _ => simp only [List.getD_cons_zero] at hb ⊢; simp only [Int.pow_zero, Int.ediv_one]; omega
          | 1, _ => simp only [List.getD_cons_succ, List.getD_cons_zero] at hb ⊢; omega
          | 2, _ => simp only [List.getD_cons_succ, List.getD_cons_zero] at hb ⊢; omega
          | 3, _ => simp only [List.getD_cons_succ, List.getD_cons_zero] at hb ⊢; omega
        generalize ([0, 192, 224, 240].getD m 0) + v / 64 ^ m = hd at *
        refine nw_blk fun w3 hb3 hB3 hs3 => ?_
        refine apK_own slT34 (ho.ext hB3) (byte_one hlead hb3) (by have := hB.size; omega) (by rw [by34]; simp only [List.length_cons, List.length_nil]; omega) (by simp only [maxLen, List.length_cons, List.length_nil]; omega) fun r w4 ho4 hg4 hr4 => ?_
        have hB4 : Below w.heap.size w w4 := (hB.trans (hB3.mono hB.size)).grown hg4 (by have := hB.size; omega) fun g hg => ((ho.ext hB3).lt g hg).1
        -- the bytes behind
        refine loopP_rule (fun (s3 : Slc × Int × Unit) w6 => ∃ j : Nat, j ≤ m ∧ s3.2.1 = (j : Int) - 1 ∧ ∃ done : List UInt8, done ++ contL j v = u8 hd :: contL m v ∧ done.length ≤ 4 ∧ Go.Vc.Own byteE w6 w.heap.size s3.1 ((xs.take k).flatMap encR ++ done) ∧ Below w.heap.size w w6)
          (fun s3 => (s3.2.1 + 1).toNat) ⟨m, Nat.le_refl _, by rw [wrap64_id (by omega)], [u8 hd], rfl, by simp, ho4, hB4⟩ ?_
        rintro ⟨s3, i3, _⟩ w6 ⟨j, hj, rfl, done, hdone, hdl, ho6, hB6⟩ I4 hI4
        dsimp only at *
        refine cond_of (fun h0 => ?_) (fun h0 => ?_)
        · have h0 := of_decide_eq_true h0
          obtain ⟨j, rfl⟩ : ∃ j', j = j' + 1 := ⟨j - 1, by omega⟩
          have ej : ((j + 1 : Nat) : Int) - 1 = (j : Int) := by omega
          rw [ej] at h0 ⊢
          rw [shr6 (by omega) hv0]
          obtain ⟨hq0, hq1⟩ := div64_bd j hv0 hv1
          rw [and32_63 _ hq0 (by omega), or32_add 6 128 _ (by omega) (by omega) (by decide) (by omega) (by omega) (by omega)]
          refine ⟨by rw [wrap64_id (by omega)]; omega, ?_⟩
          refine nw_blk fun w7 hb7 hB7 hs7 => ?_
          have hdl' : done.length + (contL (j + 1) v).length ≤ 4 := by
            have := congrArg List.length hdone
            rw [List.length_append] at this
            rw [this]
            match m, hm with
            | 0, _ => simp [contL]
            | 1, _ => simp [contL]
            | 2, _ => simp [contL]
            | 3, _ => simp [contL]
          simp only [contL, List.length_cons] at hdl'
          refine apK_own slT34 (ho6.ext hB7) (byte_one (by omega) hb7) (by have := hB6.size; omega) (by rw [by34]; simp only [List.length_append, List.length_cons, List.length_nil]; omega) (by simp only [maxLen, List.length_append, List.length_cons, List.length_nil]; omega) fun r' w8 ho8 hg8 hr8 => ?_
          rw [wrap64_id (by omega)]
          refine hI4 (r', (j : Int) - 1, ()) w8 ⟨j, by omega, rfl, done ++ [u8 (128 + v / 64 ^ j % 64)], by rw [← hdone]; simp [contL], by simp; omega, ?_, ?_⟩ (by simp)
          · rw [← List.append_assoc]; exact ho8
          · exact (hB6.trans (hB7.mono hB6.size)).grown hg8 (by have := hB6.size; omega) fun g hg => ((ho6.ext hB7).lt g hg).1
        · have h0 := of_decide_eq_false h0
          have hj0 : j = 0 := by omega
          subst hj0
          rw [contL, List.append_nil] at hdone
          rw [wrap64_id (by omega)]
          have hfl : (xs.take (k + 1)).flatMap encR = (xs.take k).flatMap encR ++ done := by
            rw [htake, List.flatMap_append, hdone, ← he, ← henc]
            simp
          refine hI (s3, (k : Int) + 1, ()) w6 ⟨k + 1, by simp, by omega, ?_, ?_, hB6⟩ (by simp; omega)
          · rw [hfl]; exact ho6
          · rw [hfl, List.length_append]; omega)
      refine joinP_of fun J5 hJ5 => ?_
      have j5 : ∀ m : Nat, m ≤ 2 → J3 (((m + 1 : Nat) : Int), [0, 192, 224, 240].getD (m + 1) 0, ()) w2 → J5 ((m : Int), [0, 0, 32, 48].getD (m + 1) 0, ()) w2 := fun m hm h3 => hJ5 _ _ (by
        dsimp only
        rw [wrap64_id (by omega)]
        match m, hm with
        | 0, _ => exact h3
        | 1, _ => exact h3
        | 2, _ => exact h3)
      refine joinP_of fun J6 hJ6 => ?_
      refine cond_of (fun h4 => ?_) (fun h4 => cond_of (fun h3 => ?_) (fun h3 => cond_of (fun h2 => ?_) (fun h2 => ?_)))
      · have h4 := of_decide_eq_true h4
        refine hJ6 _ _ (j5 2 (by omega) (go 3 (by omega) (by simp only [List.getD_cons_succ, List.getD_cons_zero]; omega) ?_))
        unfold encV
        rw [if_neg (by omega), if_neg (by omega), if_neg (by omega)]
        rfl
      · have h4 := of_decide_eq_false h4
        have h3 := of_decide_eq_true h3
        refine hJ6 _ _ (j5 1 (by omega) (go 2 (by omega) (by simp only [List.getD_cons_succ, List.getD_cons_zero]; omega) ?_))
        unfold encV
        rw [if_neg (by omega), if_neg (by omega), if_pos (by omega)]
        rfl
      · have h3 := of_decide_eq_false h3
        have h2 := of_decide_eq_true h2
        refine j5 0 (by omega) (go 1 (by omega) (by simp only [List.getD_cons_succ, List.getD_cons_zero]; omega) ?_)
        unfold encV
        rw [if_neg (by omega), if_pos (by omega)]
        rfl
      · have h2 := of_decide_eq_false h2
        refine go 0 (by omega) (by simp only [List.getD_cons_zero]; omega) ?_
        unfold encV
        rw [if_pos (by omega)]
        simp [contL])
    refine Is_spec ?_
    refine cond_of (fun hn => ?_) (fun hn => ?_)
    · have hn : validR x = false := by simpa using hn
      have : fixR x = 65533 := by rw [fixR, if_neg (by rw [hn]; decide)]
      rw [this] at main
      exact main
    · have hn : validR x = true := by simpa using hn
      have : fixR x = x := by rw [fixR, if_pos hn]
      rw [this] at main
      exact main
  · have hge := of_decide_eq_false hge
    rw [h.n] at hge
    have : k = xs.length := by omega
    subst this
    rw [List.take_length] at ho
    exact hK s w2 ho hB

end Go.Proofs.YtmoafafalnbkpaaGreatDoor

namespace Go.Proofs.YtmoafafalnbkpaaGreatDoor
open Go.Vc Go.RowKit
def strOf (l : List UInt8) : ByteArray := ⟨l.toArray⟩
theorem strOf_toList (l : List UInt8) : (strOf l).toList = l := by rw [ByteArray.toList_eq]; rfl
theorem strOf_size (l : List UInt8) : (strOf l).size = l.length := by simp [strOf, ByteArray.size]
theorem strOf_extract (l : List UInt8) (n : Nat) : (strOf l).extract 0 n = strOf (l.take n) := by
  apply ByteArray.ext
  rw [ByteArray.data_extract]
  simp [strOf]

/-! ### The reference's Encode -/
/-! ### Builders -/
/-- Block g is a builder that holds these bytes; its row lies from 'base' on. -/
def Bld (w : World) (g base : Nat) (bs : List UInt8) : Prop :=
  ∃ (p : Option Addr) (s : Slc), Blk w g ty_strings_Builder [.pointer p, .slice s.a s.n s.c] ∧ (p = none ∨ p = some ⟨g, 0, none⟩) ∧ Go.Vc.Own byteE w base s bs ∧ base ≤ g

/-- A builder's own blocks, and rows of bytes, from 'base' on. -/
def bldS (w : World) (g base : Nat) (k : Nat) : Prop := base ≤ k ∧ (k = g ∨ ∃ cs, Blk w k ty_uint8 cs)

theorem shape_blk {w : World} {g : Nat} {t : TypeId} {vs : List Value} (h : Blk w g t vs) : w.shape? g = some (t, vs.length) := by
  unfold Blk at h
  simp [World.shape?, h]

theorem copyCheck_spec {g : Nat} {p : Option Addr} {s : Slc} {w : World} {K : World → Prop} (hb : Blk w g ty_strings_Builder [.pointer p, .slice s.a s.n s.c]) (hp : p = none ∨ p = some ⟨g, 0, none⟩)
    (hK : ∀ w', Blk w' g ty_strings_Builder [.pointer (some ⟨g, 0, none⟩), .slice s.a s.n s.c] → Chg (fun k => k = g) w w' → w'.heap.size = w.heap.size → K w') : c_strings_Builder_copyCheck (some ⟨g, 0, none⟩) w K := by
  refine call_strings_Builder_copyCheck _ ?_
  unfold sh_strings_Builder_copyCheck
  refine ldP_of (x := p) (hb.cells 0 _ rfl) ?_
  have hsh := shape_blk hb
  rcases hp with rfl | rfl
  · dsimp only [Option.isNone_none, cond_true]
    refine ⟨some ⟨g, 0, none⟩, w, ?_, ?_⟩
    · exact Lib.run_to_unsafe w ⟨g, 0, none⟩ (t := ty_strings_Builder) (j := (PG.info? ty_strings_Builder).getD default) (by kernel_rfl) (by kernel_rfl) (by kernel_rfl) (by rw [show ((PG.info? ty_strings_Builder).getD default).size = 2 by kernel_rfl]; decide) hsh (by simp)
    refine ⟨some ⟨g, 0, none⟩, w, ?_, ?_⟩
    · rw [run_callFunc_extern Tryz.func164 (by kernel_rfl) (by kernel_rfl) (by kernel_rfl) (e := Extern.AbiNoEscape.same) (by kernel_rfl)]
      show ((Extern.AbiNoEscape.same #[_]).run PG w).andThen _ = _
      rw [Lib.run_noEscape]
      rfl
    refine ⟨some ⟨g, 0, none⟩, w, ?_, ?_⟩
    · exact Lib.run_from_unsafe w ⟨g, 0, none⟩ (u := ty_strings_Builder) (j := (PG.info? ty_strings_Builder).getD default) (by kernel_rfl) (by kernel_rfl) (by kernel_rfl) hsh (by kernel_rfl)
    show stK ((⟨g, 0, none⟩ : Addr).add 0) _ w _
    rw [add_zero]
    exact stK_blk hb (by simp) fun w' hb' hg' hs' => hK w' hb' (Chg.of_grown hg' fun k hk => by cases hk; rfl) hs'
  · dsimp only [Option.isNone_some, cond_false]
    refine ldP_of (x := some ⟨g, 0, none⟩) (hb.cells 0 _ rfl) ?_
    refine ⟨fun a b ha hb => by cases ha; cases hb; rfl, ?_⟩
    rw [decide_eq_true rfl]
    exact hK w hb (Chg.refl _ _) rfl

theorem own_ne_bld {w : World} {g base : Nat} {s : Slc} {bs : List UInt8} {vs : List Value} (ho : Go.Vc.Own byteE w base s bs) (hb : Blk w g ty_strings_Builder vs) : ∀ k, s.blk = some k → k ≠ g := by
  intro k hk
  obtain ⟨cs, hcs⟩ := ho.blk_t hk
  exact hcs.ne_t hb (by decide)

/-- Behind the append of bytes to a builder's row. -/
theorem bld_end {w w1 w2 : World} {g base : Nat} {s r : Slc} {bs cs : List UInt8} {K : World → Prop} (hb : Blk w1 g ty_strings_Builder [.pointer (some ⟨g, 0, none⟩), .slice s.a s.n s.c]) (ho : Go.Vc.Own byteE w1 base s bs) (hg : base ≤ g)
    (hch : Chg (bldS w g base) w w1) (ho2 : Go.Vc.Own byteE w2 base r (bs ++ cs)) (hg2 : w1.grownBy w2 s.blk) (hsb : ∀ k, s.blk = some k → k < w.heap.size → bldS w g base k)
    (hK : ∀ w', Bld w' g base (bs ++ cs) → Chg (bldS w g base) w w' → K w') : stK ((⟨g, 0, none⟩ : Addr).add 1) [.slice r.a r.n r.c] w2 K := by
  have hb2 : Blk w2 g ty_strings_Builder [.pointer (some ⟨g, 0, none⟩), .slice s.a s.n s.c] := hb.grown hg2 fun e => own_ne_bld ho hb g e.symm rfl
  refine stK_blk hb2 (by simp) fun w3 hb3 hg3 hs3 => hK w3 ⟨some ⟨g, 0, none⟩, r, hb3, .inr rfl, ?_, hg⟩ ?_
  · exact ho2.kept hg3 (by
      cases hr : r.blk with
      | none => exact .inl rfl
      | some k => exact .inr fun e => own_ne_bld ho2 hb2 k hr (Option.some.inj e))
  · refine (hch.trans (S' := fun k => s.blk = some k) (Chg.of_grown hg2 fun k hk => hk) fun i hi hs => hsb i hs hi).trans (S' := fun k => k = g) (Chg.of_grown hg3 fun k hk => by cases hk; rfl) fun i hi e => ?_
    exact ⟨by omega, .inl e⟩

theorem WriteByte_spec {g base : Nat} {bs : List UInt8} {c : Int} {w : World} {K : Value → World → Prop} (h : Bld w g base bs) (hl : bs.length ≤ 1000000) (hc : 0 ≤ c ∧ c < 256)
    (hK : ∀ w', Bld w' g base (bs ++ [u8 c]) → Chg (bldS w g base) w w' → K .nilIface w') : c_strings_Builder_WriteByte (some ⟨g, 0, none⟩) c w K := by
  obtain ⟨p, s, hb, hp, ho, hg⟩ := h
  refine call_strings_Builder_WriteByte _ _ ?_
  unfold sh_strings_Builder_WriteByte
  refine copyCheck_spec hb hp fun w1 hb1 hc1 hs1 => ?_
  rw [onPtr_some]
  refine ldSl_of (x := s) (hb1.cells 1 _ rfl) ?_
  have ho1 : Go.Vc.Own byteE w1 base s bs := ho.chg hc1 (own_ne_bld ho hb)
  refine nw_blk fun w2 hb2 hB2 hs2 => ?_
  have hx : Rd byteE w2 ⟨some ⟨w1.heap.size, 0, none⟩, 1, 1⟩ [u8 c] := by
    refine rd_one (E := byteE) hb2 ?_
    show [Value.int .u8 ((u8 c).toNat : Int)] = _
    rw [u8_toNat hc.1 hc.2]
  refine apK_own slT34 (ho1.ext hB2) hx (by have := hb.lt; omega) (by rw [by34]; simp only [List.length_cons, List.length_nil]; omega) (by simp only [maxLen, List.length_cons, List.length_nil]; omega) fun r w3 ho3 hg3 hr3 => ?_
  rw [onPtr_some]
  refine bld_end (w := w) (w1 := w2) (hb1.ext hB2) (ho1.ext hB2) hg ?_ ho3 hg3 (fun k hk hkl => ?_) fun w4 h4 hc4 => hK w4 h4 hc4
  · exact (hc1.mono (S' := bldS w g base) fun i hi e => ⟨by omega, .inl e⟩).trans (Chg.of_ext (S := fun _ => False) hB2) fun i hi e => e.elim
  · exact ⟨(ho.lt k hk).1, .inr (ho.blk_t hk)⟩

theorem Write_spec {g base : Nat} {bs cs : List UInt8} {p : Slc} {w : World} {K : Int → Value → World → Prop} (h : Bld w g base bs) (hp : Rd byteE w p cs) (hpb : ∀ a, p.a = some a → ¬ a.block = g) (hl : bs.length ≤ 1000000) (hl' : cs.length ≤ 1000000)
    (hK : ∀ n w', Bld w' g base (bs ++ cs) → Chg (bldS w g base) w w' → K n .nilIface w') : c_strings_Builder_Write (some ⟨g, 0, none⟩) p w K := by
  obtain ⟨q, s, hb, hq, ho, hg⟩ := h
  refine call_strings_Builder_Write _ _ ?_
  unfold sh_strings_Builder_Write
  refine copyCheck_spec hb hq fun w1 hb1 hc1 hs1 => ?_
  rw [onPtr_some]
  refine ldSl_of (x := s) (hb1.cells 1 _ rfl) ?_
  have ho1 : Go.Vc.Own byteE w1 base s bs := ho.chg hc1 (own_ne_bld ho hb)
  refine apK_own slT34 ho1 (hp.chg hc1 hpb) (by have := hb.lt; omega) (by rw [by34]; omega) (by simp only [maxLen]; omega) fun r w3 ho3 hg3 hr3 => ?_
  rw [onPtr_some]
  refine bld_end (w := w) (w1 := w1) hb1 ho1 hg ?_ ho3 hg3 (fun k hk hkl => ?_) fun w4 h4 hc4 => hK _ w4 h4 hc4
  · exact hc1.mono (S' := bldS w g base) fun i hi e => ⟨by omega, .inl e⟩
  · exact ⟨(ho.lt k hk).1, .inr (ho.blk_t hk)⟩

theorem String_spec {g base : Nat} {bs : List UInt8} {w : World} {K : ByteArray → World → Prop} (h : Bld w g base bs) (hl : bs.length ≤ 1000000)
    (hK : ∀ w', Chg (bldS w g base) w w' → K (strOf bs) w') : c_strings_Builder_String (some ⟨g, 0, none⟩) w K := by
  obtain ⟨p, s, hb, hp, ho, hg⟩ := h
  refine call_strings_Builder_String _ ?_
  unfold sh_strings_Builder_String
  rw [onPtr_some]
  refine ldSl_of (x := s) (hb.drew.cells 1 _ rfl) ?_
  rw [onPtr_some]
  refine ldSl_of (x := s) (hb.drew.cells 1 _ rfl) ?_
  rcases ho.form with ⟨rfl, rfl⟩ | ⟨g', cur, hs, hb', hblk, h1, h2, h3, h4⟩
  · refine ⟨none, w.drew, Lib.run_unsafeSliceData_nil w.drew _ _ _ _, hb.drew.cells 1 _ rfl, strOf [], w.drew, ?_, hK _ ⟨rfl, rfl, rfl, Nat.le_refl _, fun _ _ _ => rfl⟩⟩
    exact Lib.run_unsafeString_none w.drew ty_p_uint8 ty_int ty_string none
  · have hsn : s.n = bs.length := by rw [hs]
    have hsa : s.a = some ⟨g', 0, none⟩ := by rw [hs]
    by_cases h0 : bs = []
    · subst h0
      -- a row without a byte
      by_cases hc : s.c = 0
      · have hcur : cur = [] := List.eq_nil_of_length_eq_zero (by rw [h3, hc]; simp)
        have hz := Lib.run_unsafeSliceData_zero (P := PG) w.drew #[ty_sl_uint8] ty_p_uint8 ty_uint8 (by kernel_rfl) ⟨g', 0, none⟩ s.n _ (shape_blk hblk.drew)
        rw [hsa, hc] at hb ⊢
        refine ⟨_, _, hz, (hb.drew.alloc _).cells 1 _ rfl, strOf [], w.drew.alloc (.view ⟨g', 0, none⟩ 5), ?_, hK _ ?_⟩
        · rw [hsn]
          exact Lib.run_unsafeString_none _ ty_p_uint8 ty_int ty_string _
        · exact Chg.of_ext ((Below.refl _ w).drew.alloc (Nat.le_refl _) _)
      · refine ⟨some ⟨g', 0, none⟩, w.drew, ?_, hb.drew.cells 1 _ rfl, strOf [], w.drew, ?_, hK _ ⟨rfl, rfl, rfl, Nat.le_refl _, fun _ _ _ => rfl⟩⟩
        · rw [hsa]; exact Lib.run_unsafeSliceData_row w.drew _ _ _ _ _ hc
        · rw [hsn]; exact Lib.run_unsafeString_none w.drew ty_p_uint8 ty_int ty_string _
    · have hlen : 0 < bs.length := List.length_pos_iff.2 h0
      have hc : s.c ≠ 0 := by omega
      refine ⟨some ⟨g', 0, none⟩, w.drew, ?_, hb.drew.cells 1 _ rfl, strOf bs, w.drew.freeze ⟨g', 0, none⟩ bs.length, ?_, hK _ ?_⟩
      · rw [hsa]; exact Lib.run_unsafeSliceData_row w.drew _ _ _ _ _ hc
      · rw [hsn]
        refine Lib.run_unsafeString_row w.drew ty_p_uint8 ty_int ty_string 5 (by kernel_rfl) (by kernel_rfl) g' cur.length (shape_blk hblk.drew) bs h0 (by rw [h3]; simp [byteE]; omega) (by omega) fun j x hj => ?_
        have hr := ho.drew.rd.at_ j x hj
        have := hr 0 (.int .u8 x.toNat) rfl
        simp only [Slc.at_, hsa, Option.getD_some, add_zero] at this
        rwa [show j * byteE.k = j from Nat.mul_one j] at this
      · unfold World.freeze
        rw [if_neg (by omega)]
        refine ⟨rfl, rfl, rfl, by simp, fun k hk hn => ?_⟩
        have hne : g' ≠ k := by
          rintro rfl
          exact hn ⟨hb', .inr ⟨_, hblk⟩⟩
        show (w.heap.modify g' _)[k]? = w.heap[k]?
        rw [Array.getElem?_modify, if_neg hne]

end Go.Proofs.YtmoafafalnbkpaaGreatDoor

namespace Go.Proofs.YtmoafafalnbkpaaGreatDoor
open Go.Vc Go.RowKit
/-! ### What is blank at the end -/
def trimR (l : List UInt8) : List UInt8 := (l.reverse.dropWhile (· == 32)).reverse
theorem trimR_blank (l : List UInt8) : trimR (l ++ [32]) = trimR l := by simp [trimR]
theorem trimR_keep (l : List UInt8) (b : UInt8) (h : b ≠ 32) : trimR (l ++ [b]) = l ++ [b] := by
  have : (b == 32) = false := by simpa using h
  simp [trimR, this]
theorem trimByte_spec {l : List UInt8} {w : World} {K : ByteArray → World → Prop} (hl : l.length ≤ 4611686018427387904) (hK : K (strOf (trimR l)) w) : c_strings_trimRightByte (strOf l) 32 w K := by
  refine call_strings_trimRightByte _ _ ?_
  unfold sh_strings_trimRightByte
  refine loopP_rule (fun (s : ByteArray × Unit) w2 => ∃ m : List UInt8, s.1 = strOf m ∧ trimR m = trimR l ∧ m.length ≤ l.length ∧ w2 = w) (fun s => s.1.size) ⟨l, rfl, rfl, Nat.le_refl _, rfl⟩ ?_
  rintro ⟨s, _⟩ w2 ⟨m, rfl, hm, hml, rfl⟩ I hI
  dsimp only at *
  refine joinP_of fun J hJ => ?_
  rw [strOf_size]
  refine cond_of (fun h => ?_) (fun h => ?_)
  · have h := of_decide_eq_true h
    obtain ⟨r, b, rfl⟩ : ∃ r b, m = r ++ [b] := ⟨m.dropLast, m.getLast (by intro e; subst e; simp at h), (List.dropLast_concat_getLast _).symm⟩
    rw [List.length_append] at *
    simp only [List.length_cons, List.length_nil] at *
    rw [wrap64_id (by omega)]
    have hi : (((r.length + (0 + 1) : Nat) : Int) - 1).toNat = r.length := by omega
    refine ⟨⟨by omega, by rw [strOf_size, List.length_append]; simp; omega⟩, ?_⟩
    rw [hi]
    have hb : ((strOf (r ++ [b])).data.getD r.length 0) = b := by simp [strOf]
    rw [hb]
    refine cond_of (fun e => ?_) (fun e => ?_)
    · have e : b = 32 := by
        have e := eq_of_beq e
        have e : b.toNat = 32 := Int.ofNat_inj.1 e
        exact UInt8.toNat_inj.1 e
      subst e
      refine hJ _ _ ?_
      rw [strOf_size, List.length_append]
      simp only [List.length_cons, List.length_nil]
      rw [wrap64_id (by omega)]
      refine ⟨⟨by omega, by rw [strOf_size, List.length_append]; simp; omega⟩, ?_⟩
      rw [hi]
      show I ((strOf (r ++ [32])).extract 0 r.length, ()) w2
      rw [strOf_extract, List.take_left]
      refine hI _ _ ⟨r, rfl, by rw [← hm, trimR_blank], by omega, rfl⟩ (by simp [strOf_size])
    · have e : b ≠ 32 := by
        have e := beq_eq_false_iff_ne.1 e
        rintro rfl
        exact e rfl
      rw [← hm, trimR_keep r b e] at hK
      exact hK
  · have h := of_decide_eq_false h
    have : m = [] := List.eq_nil_of_length_eq_zero (by omega)
    subst this
    rw [← hm] at hK
    exact hK

theorem TrimRight_spec {l : List UInt8} {w : World} {K : ByteArray → World → Prop} (hl : l.length ≤ 4611686018427387904) (hK : K (strOf (trimR l)) w) : c_strings_TrimRight (strOf l) (⟨#[32]⟩ : ByteArray) w K := by
  refine call_strings_TrimRight _ _ ?_
  unfold sh_strings_TrimRight
  refine joinP_of fun J hJ => ?_
  refine cond_of (fun h => ?_) (fun h => ?_)
  · have h := eq_of_beq h
    rw [strOf_toList] at h
    have : l = [] := by rw [h]; exact strOf_toList []
    subst this
    exact hK
  · refine cond_f (by rw [show ((⟨#[32]⟩ : ByteArray)).toList = [32] from strOf_toList [32], show ((⟨#[]⟩ : ByteArray)).toList = [] from strOf_toList []]; rfl) ?_
    refine hJ _ _ ?_
    refine joinP_of fun J2 hJ2 => joinP_of fun J3 hJ3 => ?_
    refine cond_t rfl ?_
    have hz : (0 : Int) < (strOf [32]).size := by rw [strOf_size]; decide
    refine ⟨⟨Int.le_refl _, hz⟩, ?_⟩
    refine hJ3 _ _ ?_
    refine cond_t ?_ ⟨⟨Int.le_refl _, hz⟩, ?_⟩
    · kernel_rfl
    · exact trimByte_spec hl hK

/-! ### The text of a line -/
def cellB (c : Cell) : List UInt8 := if c.Kind = 2 then [] else if c.R = 0 then [32] else encR c.R
def textB (xs : List Cell) : List UInt8 := (mendL xs).flatMap cellB
def textS (xs : List Cell) : ByteArray := strOf (trimR (textB xs))

theorem encR_length (r : Int) : (encR r).length ≤ 4 := encV_length _
theorem cellB_length (c : Cell) : (cellB c).length ≤ 4 := by
  unfold cellB
  split
  · simp
  · split
    · simp
    · exact encR_length _
theorem flatB_length : ∀ ys : List Cell, (ys.flatMap cellB).length ≤ 4 * ys.length
  | [] => by simp
  | c :: r => by
    have h1 := cellB_length c
    have h2 := flatB_length r
    rw [List.flatMap_cons, List.length_append, List.length_cons]
    omega

theorem Text_spec {l : Slc} {xs : List Cell} {w : World} {K : ByteArray → World → Prop} (h : Rd cellE w l xs) (hl : xs.length ≤ 10000)
    (hK : ∀ w', Below w.heap.size w w' → K (textS xs) w') : c_line_Line_Text l w K := by
  refine call_line_Line_Text _ ?_
  unfold sh_line_Line_Text
  refine nw_blk fun w1 hb1 hB1 hs1 => ?_
  refine Mend_spec (h.ext hB1) (by omega) fun m w2 ho2 hB2 => ?_
  have hml := mendL_length xs
  have hmn : m.n = xs.length := by have := ho2.rd.n; rwa [hml] at this
  have hbld : Bld w2 w.heap.size w.heap.size [] := ⟨none, ⟨none, 0, 0⟩, hb1.ext hB2, .inl rfl, Go.Vc.Own.nil _ _ _, Nat.le_refl _⟩
  have hB02 : Below w.heap.size w w2 := hB1.trans (hB2.mono (by omega))
  have ho2 : Go.Vc.Own cellE w2 w.heap.size m (mendL xs) := ho2.base (by omega)
  refine loopP_rule (fun (s : Int × Unit) w3 => ∃ k : Nat, s.1 = k ∧ k ≤ xs.length ∧ Go.Vc.Own cellE w3 w.heap.size m (mendL xs) ∧ Bld w3 w.heap.size w.heap.size (((mendL xs).take k).flatMap cellB) ∧ Below w.heap.size w w3)
    (fun s => xs.length - s.1.toNat) ⟨0, rfl, by omega, ho2, by simpa using hbld, hB02⟩ ?_
  rintro ⟨i, _⟩ w3 ⟨k, rfl, hk, ho, hbl, hB⟩ I hI
  dsimp only at *
  have hblen : (((mendL xs).take k).flatMap cellB).length ≤ 4 * k := by
    have := flatB_length ((mendL xs).take k)
    rw [List.length_take] at this
    omega
  -- a builder's change leaves rows of cells alone, and what was there ahead
  have keepO : ∀ {a b : World}, Go.Vc.Own cellE a w.heap.size m (mendL xs) → (∃ vs, Blk a w.heap.size ty_strings_Builder vs) → Chg (bldS a w.heap.size w.heap.size) a b → Go.Vc.Own cellE b w.heap.size m (mendL xs) := by
    rintro a b ho ⟨vs, hv⟩ hc
    refine ho.chg hc fun g hg => ?_
    rintro ⟨_, e | ⟨cs, hcs⟩⟩
    · obtain ⟨cs, hcs⟩ := ho.blk_t hg
      exact hcs.ne_t hv (by decide) e
    · obtain ⟨cs', hcs'⟩ := ho.blk_t hg
      exact hcs'.ne_t hcs (by decide) rfl
  have keepB : ∀ {a b : World}, Below w.heap.size w a → Chg (bldS a w.heap.size w.heap.size) a b → Below w.heap.size w b := fun hB hc =>
    hB.trans (hc.below hB.size fun i hi hs => by have := hs.1; omega)
  refine cond_of (fun hlt => ?_) (fun hge => ?_)
  · have hlt := of_decide_eq_true hlt
    rw [hmn] at hlt
    have hkl : k < (mendL xs).length := by omega
    obtain ⟨x, hx, hxs⟩ := get_of hkl
    have htake : ((mendL xs).take (k + 1)).flatMap cellB = ((mendL xs).take k).flatMap cellB ++ cellB x := by
      rw [List.take_add_one, hx]; simp
    have hwr : IntKind.i64.wrap ((k : Int) + 1) = (k : Int) + 1 := wrap64_id (by omega)
    refine ho.rd.ix rfl (by omega) (by omega) fun hc => ?_
    rw [hxs] at hc
    refine ldS_of (x := x) hc ?_
    refine box_of rfl fun w5 hb5 hB5 hs5 => ?_
    have hB05 : Below w.heap.size w w5 := hB.trans (hB5.mono hB.size)
    have ho5 := ho.ext hB5
    have hbl5 : Bld w5 w.heap.size w.heap.size (((mendL xs).take k).flatMap cellB) := by
      obtain ⟨p, s, h1, h2, h3, h4⟩ := hbl
      exact ⟨p, s, h1.ext hB5, h2, h3.ext hB5, h4⟩
    have hv5 : ∃ vs, Blk w5 w.heap.size ty_strings_Builder vs := by obtain ⟨p, s, h1, _⟩ := hbl5; exact ⟨_, h1⟩
    have fin : ∀ {w6 : World}, Bld w6 w.heap.size w.heap.size (((mendL xs).take k).flatMap cellB ++ cellB x) → Go.Vc.Own cellE w6 w.heap.size m (mendL xs) → Below w.heap.size w w6 → I (IntKind.i64.wrap ((k : Int) + 1), ()) w6 := fun hb6 ho6 hB6 => by
      rw [hwr]
      exact hI _ _ ⟨k + 1, by simp, by omega, ho6, by rw [htake]; exact hb6, hB6⟩ (by simp; omega)
    refine ldI_of (hb5.cells 1 _ rfl) ?_
    refine cond_of (fun h2 => ?_) (fun h2 => ?_)
    · have h2 := eq_of_beq h2
      have e : cellB x = [] := by rw [cellB, if_pos h2]
      exact fin (by rw [e, List.append_nil]; exact hbl5) ho5 hB05
    · have h2 := beq_eq_false_iff_ne.1 h2
      refine ldI_of (hb5.cells 0 _ rfl) ?_
      refine cond_of (fun h0 => ?_) (fun h0 => ?_)
      · have h0 := eq_of_beq h0
        have e : cellB x = [32] := by rw [cellB, if_neg h2, if_pos h0]
        refine WriteByte_spec hbl5 (by omega) (by decide) fun w6 hb6 hc6 => ?_
        exact fin (by rw [e]; exact hb6) (keepO ho5 hv5 hc6) (keepB hB05 hc6)
      · have h0 := beq_eq_false_iff_ne.1 h0
        have e : cellB x = encR x.R := by rw [cellB, if_neg h2, if_neg h0]
        refine ldI_of (hb5.cells 0 _ rfl) ?_
        refine nw_blk fun w7 hb7 hB7 hs7 => ?_
        have hr7 : Rd runeE w7 ⟨some ⟨w5.heap.size, 0, none⟩, 1, 1⟩ [x.R] := rd_one (E := runeE) hb7 rfl
        refine Encode_spec hr7 (by simp) fun r w8 ho8 hB8 => ?_
        have hB58 : Below w5.heap.size w5 w8 := hB7.trans (hB8.mono (by omega))
        have hbl8 : Bld w8 w.heap.size w.heap.size (((mendL xs).take k).flatMap cellB) := by
          obtain ⟨p, s, h1, h2, h3, h4⟩ := hbl5
          exact ⟨p, s, h1.ext hB58, h2, h3.ext hB58, h4⟩
        have hv8 : ∃ vs, Blk w8 w.heap.size ty_strings_Builder vs := by obtain ⟨p, s, h1, _⟩ := hbl8; exact ⟨_, h1⟩
        have hrd : Rd byteE w8 r (encR x.R) := by have := ho8.rd; simpa using this
        have hne : ∀ a, r.a = some a → ¬ a.block = w.heap.size := by
          intro a ha e
          have := (ho8.lt a.block (by simp [Slc.blk, ha])).1
          have h1 := hB05.size
          obtain ⟨vs, hv⟩ := hv5
          have := hv.lt
          omega
        have := encR_length x.R
        refine Write_spec hbl8 hrd hne (by omega) (by omega) fun n w9 hb9 hc9 => ?_
        exact fin (by rw [e]; exact hb9) (keepO (ho5.ext hB58) hv8 hc9) (keepB (hB05.trans (hB58.mono hB05.size)) hc9)
  · have hge := of_decide_eq_false hge
    rw [hmn] at hge
    have : k = xs.length := by omega
    subst this
    rw [← hml, List.take_length] at hbl hblen
    refine String_spec hbl (by omega) fun w4 hc4 => ?_
    refine TrimRight_spec (by omega) ?_
    exact hK w4 (keepB hB hc4)

/-! ### The reference's text -/
def okR (xs : List Cell) : Prop := ∀ c ∈ xs, -9223372036854775808 ≤ c.R ∧ c.R ≤ 9223372036854775807
theorem okR_mend {xs : List Cell} (h : okR xs) : okR (mendL xs) := by
  intro c hc
  obtain ⟨i, hi⟩ := List.getElem?_of_mem hc
  have hlt : i < xs.length := by have := (List.getElem?_eq_some_iff.1 hi).1; rwa [mendL_length] at this
  obtain ⟨x, hx, _⟩ := get_of hlt
  rw [mendL_get xs i x hx] at hi
  cases hi
  have := h x (List.mem_of_getElem? hx)
  unfold mendC
  split
  · exact this
  · split
    · exact ⟨show (-9223372036854775808 : Int) ≤ 0 by decide, show (0 : Int) ≤ 9223372036854775807 by decide⟩
    · split
      · exact ⟨show (-9223372036854775808 : Int) ≤ 0 by decide, show (0 : Int) ≤ 9223372036854775807 by decide⟩
      · exact this

end Go.Proofs.YtmoafafalnbkpaaGreatDoor

namespace Go.Proofs.YtmoafafalnbkpaaGreatDoor
open Go.Vc Go.RowKit
/-! ### Fitting -/
theorem isB_nat {xs : List Cell} {i : Nat} {k : Int} : isB xs i k = true ↔ ∃ y, xs[i]? = some y ∧ y.Kind = k := by
  unfold isB
  rw [Bool.and_eq_true, Bool.and_eq_true, decide_eq_true_iff, decide_eq_true_iff, beq_iff_eq]
  constructor
  · rintro ⟨⟨_, h⟩, e⟩
    have hl : i < xs.length := by omega
    refine ⟨xs[i], List.getElem?_eq_getElem hl, ?_⟩
    rw [kindAt_get (List.getElem?_eq_getElem hl)] at e
    exact e
  · rintro ⟨y, hy, e⟩
    have := (List.getElem?_eq_some_iff.1 hy).1
    exact ⟨⟨by omega, by omega⟩, by rw [kindAt_get hy, e]⟩
theorem fits_iff {xs : List Cell} {k : Nat} {x : Cell} (hx : xs[k]? = some x) :
    fitsB xs k = true ↔ x.Kind = 0 ∨ (x.Kind = 1 ∧ ∃ y, xs[k + 1]? = some y ∧ y.Kind = 2) ∨ (x.Kind = 2 ∧ 1 ≤ k ∧ ∃ y, xs[k - 1]? = some y ∧ y.Kind = 1) := by
  have hkk := kindAt_get hx
  unfold fitsB
  rw [hkk]
  by_cases h0 : x.Kind = 0
  · rw [if_pos h0]; exact ⟨fun _ => .inl h0, fun _ => rfl⟩
  · rw [if_neg h0]
    by_cases h1 : x.Kind = 1
    · rw [if_pos h1, show (k : Int) + 1 = ((k + 1 : Nat) : Int) by omega, isB_nat]
      constructor
      · exact fun h => .inr (.inl ⟨h1, h⟩)
      · rintro (h | ⟨_, h⟩ | ⟨h, _⟩)
        · exact absurd h h0
        · exact h
        · omega
    · rw [if_neg h1]
      by_cases h2 : x.Kind = 2
      · rw [if_pos h2]
        by_cases hk : 1 ≤ k
        · rw [show (k : Int) - 1 = ((k - 1 : Nat) : Int) by omega, isB_nat]
          constructor
          · exact fun h => .inr (.inr ⟨h2, hk, h⟩)
          · rintro (h | ⟨h, _⟩ | ⟨_, _, h⟩)
            · exact absurd h h0
            · exact absurd h h1
            · exact h
        · have : isB xs ((k : Int) - 1) 1 = false := by
            unfold isB
            rw [decide_eq_false (by omega)]
            rfl
          rw [this]
          constructor
          · intro h; cases h
          · rintro (h | ⟨h, _⟩ | ⟨_, h, _⟩)
            · exact absurd h h0
            · exact absurd h h1
            · exact absurd h hk
      · rw [if_neg h2]
        constructor
        · intro h; cases h
        · rintro (h | ⟨h, _⟩ | ⟨h, _⟩)
          · exact absurd h h0
          · exact absurd h h1
          · exact absurd h h2
theorem right_iff {xs : List Cell} : rightB xs = true ↔ ∀ (k : Nat) x, xs[k]? = some x → fitsB xs k = true ∧ (x.Kind = 2 → x.R = 0) := by
  constructor
  · intro h k x hx
    have hk := (List.getElem?_eq_some_iff.1 hx).1
    have := okB_get hx
    have h1 : okB xs k = true := by
      unfold rightB at h
      rw [List.all_eq_true] at h
      exact h k (List.mem_range.2 hk)
    rw [this, Bool.and_eq_true] at h1
    refine ⟨h1.1, fun e => ?_⟩
    have := h1.2
    rw [e] at this
    simpa using this
  · intro h
    refine rightB_of fun k hk => ?_
    obtain ⟨x, hx, _⟩ := get_of hk
    obtain ⟨h1, h2⟩ := h k x hx
    rw [okB_get hx, h1]
    by_cases e : x.Kind = 2
    · simp [e, h2 e]
    · simp [e]
theorem fits_kinds {xs : List Cell} {k : Nat} {x : Cell} (hx : xs[k]? = some x) (h : fitsB xs k = true) : ¬ (x.Kind ≠ 0 ∧ x.Kind ≠ 1 ∧ x.Kind ≠ 2) := by
  rintro ⟨h0, h1, h2⟩
  rcases (fits_iff hx).1 h with h | h | h
  · exact h0 h
  · exact h1 h.1
  · exact h2 h.1
theorem mendC_kept {xs : List Cell} {k : Nat} {x : Cell} (hx : xs[k]? = some x) (h : fitsB xs k = true) : (mendC xs k x).Kind = x.Kind ∧ (x.Kind = 2 → (mendC xs k x).R = 0) := by
  unfold mendC
  rw [if_neg (fits_kinds hx h), if_neg (by rw [h]; decide)]
  split
  · exact ⟨rfl, fun _ => rfl⟩
  · next h2 => exact ⟨rfl, fun e => absurd e h2⟩
theorem mendC_lost {xs : List Cell} {k : Nat} {x : Cell} (h : fitsB xs k = false) : (mendC xs k x).Kind = 0 := by
  unfold mendC
  rw [h]
  split
  · rfl
  · rfl

theorem right_mend (xs : List Cell) : rightB (mendL xs) = true := by
  refine right_iff.2 fun k x' hx' => ?_
  have hk : k < xs.length := by have := (List.getElem?_eq_some_iff.1 hx').1; rwa [mendL_length] at this
  obtain ⟨x, hx, _⟩ := get_of hk
  have hm := mendL_get xs k x hx
  rw [hx'] at hm
  cases hm
  cases hf : fitsB xs k with
  | false => 
    have h0 := mendC_lost (x := x) hf
    exact ⟨(fits_iff hx').2 (.inl h0), fun e => by rw [h0] at e; cases e⟩
  | true =>
    obtain ⟨e1, e2⟩ := mendC_kept hx hf
    rw [e1]
    refine ⟨(fits_iff hx').2 ?_, e2⟩
    rw [e1]
    rcases (fits_iff hx).1 hf with h | ⟨h, y, hy, h2⟩ | ⟨h, hk1, y, hy, h2⟩
    · exact .inl h
    · refine .inr (.inl ⟨h, _, mendL_get xs _ y hy, ?_⟩)
      have : fitsB xs ((k + 1 : Nat) : Int) = true := (fits_iff hy).2 (.inr (.inr ⟨h2, by omega, x, hx, h⟩))
      rw [(mendC_kept hy this).1, h2]
    · refine .inr (.inr ⟨h, hk1, _, mendL_get xs _ y hy, ?_⟩)
      have : fitsB xs ((k - 1 : Nat) : Int) = true := (fits_iff hy).2 (.inr (.inl ⟨h2, x, by rw [show k - 1 + 1 = k by omega]; exact hx, h⟩))
      rw [(mendC_kept hy this).1, h2]

theorem mend_id {xs : List Cell} (h : rightB xs = true) : mendL xs = xs := by
  refine List.ext_getElem? fun k => ?_
  cases hx : xs[k]? with
  | none => rw [List.getElem?_eq_none_iff] at hx ⊢; rw [mendL_length]; exact hx
  | some x =>
    rw [mendL_get xs k x hx]
    obtain ⟨h1, h2⟩ := right_iff.1 h k x hx
    unfold mendC
    rw [if_neg (fits_kinds hx h1), if_neg (by rw [h1]; decide)]
    split
    · next e =>
      have := h2 e
      cases x
      simp only at this
      rw [this]
    · rfl

/-! ### Halves, and what the reference writes over -/
/-! ### Put, Erase, Insert, Resize -/
theorem fillL_get (xs : List Cell) (lo hi : Nat) (c : Cell) (i : Nat) : (fillL xs lo hi c)[i]? = if lo ≤ i ∧ i < hi then (xs[i]?).map fun _ => c else xs[i]? := by
  simp only [fillL, List.getElem?_mapIdx]
  by_cases h : lo ≤ i ∧ i < hi
  · simp [h]
  · simp [h]

theorem right_pad {xs : List Cell} (h : rightB xs = true) (n : Nat) (a : Attr) : rightB (xs ++ List.replicate n (blankC a)) = true := by
  have hR := right_iff.1 h
  refine right_iff.2 fun k x hx => ?_
  rcases Nat.lt_or_ge k xs.length with hk | hk
  · rw [List.getElem?_append_left hk] at hx
    obtain ⟨h1, h2⟩ := hR k x hx
    refine ⟨(fits_iff (by rw [List.getElem?_append_left hk]; exact hx)).2 ?_, h2⟩
    rcases (fits_iff hx).1 h1 with h | ⟨h, y, hy, h'⟩ | ⟨h, hp, y, hy, h'⟩
    · exact .inl h
    · have := (List.getElem?_eq_some_iff.1 hy).1
      exact .inr (.inl ⟨h, y, by rw [List.getElem?_append_left this]; exact hy, h'⟩)
    · have := (List.getElem?_eq_some_iff.1 hy).1
      exact .inr (.inr ⟨h, hp, y, by rw [List.getElem?_append_left this]; exact hy, h'⟩)
  · have hx0 := hx
    rw [List.getElem?_append_right hk, List.getElem?_replicate] at hx
    split at hx
    · cases hx
      exact ⟨(fits_iff hx0).2 (.inl rfl), fun _ => rfl⟩
    · cases hx

end Go.Proofs.YtmoafafalnbkpaaGreatDoor

namespace Go.Proofs.YtmoafafalnbkpaaGreatDoor
open Go.Vc Go.RowKit
/-! ### Lengths -/
theorem putP_length (xs : List Cell) (col r width : Int) (a : Attr) : (putP xs col r width a).length = xs.length := by
  unfold putP
  split
  · exact mendL_length xs
  · rw [halvesL_length, wrotL_length, mendL_length]
theorem eraP_length (xs : List Cell) (from_ to : Int) (a : Attr) : (eraP xs from_ to a).length = xs.length := by
  unfold eraP
  dsimp only
  split
  · exact mendL_length xs
  · rw [halvesL_length, fillL_length, mendL_length]
theorem insL_length (xs : List Cell) (col k : Int) (a : Attr) : (insL xs col k a).length = xs.length := by
  unfold insL
  have hml := mendL_length xs
  obtain ⟨hc0, hc1⟩ := manyL_bounds (n := xs.length) (col := col) (k := k)
  dsimp only
  generalize manyL xs.length col k = c at *
  split
  · exact hml
  · next h =>
    have := hc1 h
    rw [mendL_length]
    simp
    omega
theorem delL_length (xs : List Cell) (col k : Int) (a : Attr) : (delL xs col k a).length = xs.length := by
  unfold delL
  have hml := mendL_length xs
  obtain ⟨hc0, hc1⟩ := manyL_bounds (n := xs.length) (col := col) (k := k)
  dsimp only
  generalize manyL xs.length col k = c at *
  split
  · exact hml
  · next h =>
    have := hc1 h
    rw [mendL_length]
    simp
    omega
theorem resL_length (xs : List Cell) (cols : Int) : (resL xs cols).length = (min 1000 (max 0 cols)).toNat := by
  unfold resL
  have hml := mendL_length xs
  dsimp only
  split
  · rw [mendL_length]; simp; omega
  · simp; omega

/-! ### Letters in range -/
theorem okR_set {xs : List Cell} (h : okR xs) {i : Nat} {c : Cell} (hc : -9223372036854775808 ≤ c.R ∧ c.R ≤ 9223372036854775807) : okR (xs.set i c) := fun x hx => by
  rcases List.mem_or_eq_of_mem_set hx with h1 | h1
  · exact h x h1
  · rw [h1]; exact hc
theorem okR_blank (a : Attr) : -9223372036854775808 ≤ (blankC a).R ∧ (blankC a).R ≤ 9223372036854775807 := ⟨show (-9223372036854775808 : Int) ≤ 0 by decide, show (0 : Int) ≤ 9223372036854775807 by decide⟩
theorem okR_blanks (n : Nat) (a : Attr) : okR (List.replicate n (blankC a)) := fun c hc => by rw [List.eq_of_mem_replicate hc]; exact okR_blank a
theorem okR_append {xs ys : List Cell} (h : okR xs) (h' : okR ys) : okR (xs ++ ys) := fun c hc => by
  rcases List.mem_append.1 hc with h1 | h1
  · exact h c h1
  · exact h' c h1
theorem okR_take {xs : List Cell} (h : okR xs) (n : Nat) : okR (xs.take n) := fun c hc => h c (List.mem_of_mem_take hc)
theorem okR_drop {xs : List Cell} (h : okR xs) (n : Nat) : okR (xs.drop n) := fun c hc => h c (List.mem_of_mem_drop hc)
theorem okR_half {xs : List Cell} (h : okR xs) (p : Int) : okR (halfL xs p) := by
  unfold halfL
  split
  · exact okR_set h (okR_blank _)
  · exact h
theorem okR_put {xs : List Cell} (h : okR xs) {col r width : Int} {a : Attr} (hr : -9223372036854775808 ≤ r ∧ r ≤ 9223372036854775807) : okR (putP xs col r width a) := by
  unfold putP
  split
  · exact okR_mend h
  · refine okR_half (okR_half ?_ _) _
    unfold wrotL
    split
    · exact okR_set (okR_set (okR_mend h) hr) ⟨show (-9223372036854775808 : Int) ≤ 0 by decide, show (0 : Int) ≤ 9223372036854775807 by decide⟩
    · exact okR_set (okR_mend h) hr
theorem okR_fill {xs : List Cell} (h : okR xs) (lo hi : Nat) (a : Attr) : okR (fillL xs lo hi (blankC a)) := by
  intro c hc
  obtain ⟨i, hi'⟩ := List.getElem?_of_mem hc
  rw [fillL_get] at hi'
  split at hi'
  · obtain ⟨y, _, rfl⟩ := Option.map_eq_some_iff.1 hi'
    exact okR_blank a
  · exact h c (List.mem_of_getElem? hi')
theorem okR_era {xs : List Cell} (h : okR xs) (from_ to : Int) (a : Attr) : okR (eraP xs from_ to a) := by
  unfold eraP
  dsimp only
  split
  · exact okR_mend h
  · exact okR_half (okR_half (okR_fill (okR_mend h) _ _ _) _) _
theorem okR_ins {xs : List Cell} (h : okR xs) (col k : Int) (a : Attr) : okR (insL xs col k a) := by
  unfold insL
  dsimp only
  split
  · exact okR_mend h
  · exact okR_mend (okR_append (okR_append (okR_take (okR_mend h) _) (okR_blanks _ _)) (okR_drop (okR_take (okR_mend h) _) _))
theorem okR_del {xs : List Cell} (h : okR xs) (col k : Int) (a : Attr) : okR (delL xs col k a) := by
  unfold delL
  dsimp only
  split
  · exact okR_mend h
  · exact okR_mend (okR_append (okR_append (okR_take (okR_mend h) _) (okR_drop (okR_mend h) _)) (okR_blanks _ _))
theorem okR_res {xs : List Cell} (h : okR xs) (cols : Int) : okR (resL xs cols) := by
  unfold resL
  dsimp only
  split
  · exact okR_mend (okR_take (okR_mend h) _)
  · exact okR_append (okR_mend h) (okR_blanks _ _)

end Go.Proofs.YtmoafafalnbkpaaGreatDoor

namespace Go.Proofs.YtmoafafalnbkpaaGreatDoor
open Go.Vc Go.RowKit
def sl2E : El Slc where
  cells s := [.slice s.a s.n s.c]
  t := ty_sl_line_Line
  k := 1
  pos := by decide
  len _ := rfl
  one x v hv := by
    simp only [List.mem_cons, List.mem_nil_iff, or_false] at hv
    rcases hv with rfl
    rfl
noncomputable def slT116 : SlT PG slE ty_sl_line_Line where
  ht := by kernel_rfl
  i := (PG.info? ty_line_Line).getD default
  hi := by kernel_rfl
  z := .slice none 0 0
  hz := by kernel_rfl
  hs := by kernel_rfl
  hzs := rfl
theorem by116 : slT116.i.bytes = 24 := by kernel_rfl

theorem GrowS_nil {n : Int} {w : World} {K : Slc → World → Prop} (h0 : 0 ≤ n) (hn : n ≤ 1000000) (hK : ∀ r w', Go.Vc.Own slE w' w.heap.size r [] → Below w.heap.size w w' → K r w') : c_slices_Grow_line_Line_line_Line (⟨none, 0, 0⟩ : Slc) n w K := by
  refine call_slices_Grow_line_Line_line_Line _ _ ?_
  unfold sh_slices_Grow_line_Line_line_Line
  refine joinP_of fun J hJ => ?_
  refine cond_f (by simpa using h0) (hJ _ _ ?_)
  have hw : IntKind.i64.wrap (n - (IntKind.i64.wrap (((0 : Nat) : Int) - ((0 : Nat) : Int)))) = n := by
    rw [wrap64_id (x := ((0 : Nat) : Int) - ((0 : Nat) : Int)) (by omega), wrap64_id (by omega)]
    omega
  simp only [hw]
  refine cond_of (fun h => ?_) (fun h => ?_)
  · have h := of_decide_eq_true h
    refine bnd_some (by omega) (by omega) (bnd_none ?_)
    refine apM_nil slT116 (kk := .i64) (by kernel_rfl) (n := n.toNat) (by omega) (by omega) (by simp only [maxLen]; omega) (by rw [by116]; omega) fun cap w' h1 h2 ho hB => ?_
    refine bnd_some (by omega) (by simp) (bnd_none ?_)
    have e : cut (some ⟨w.heap.size, 0, none⟩) 0 cap 1 = some ⟨w.heap.size, 0, none⟩ := by
      unfold cut
      split
      · rfl
      · simp
    show K ⟨cut (some ⟨w.heap.size, 0, none⟩) 0 cap 1, 0, cap⟩ w'
    rw [e]
    exact hK _ _ ho hB
  · exact hK _ _ (Go.Vc.Own.nil _ _ _) (Below.refl _ _)

/-- Many slices that read as many lists. -/
def RdAllS (w : World) (ss : List Slc) (xss : List (List Slc)) : Prop := ss.length = xss.length ∧ ∀ (i : Nat) s xs, ss[i]? = some s → xss[i]? = some xs → Rd slE w s xs

theorem sum_take_leS (xss : List (List Slc)) (k : Nat) : (xss.take k).flatten.length ≤ xss.flatten.length := by
  conv => rhs; rw [← List.take_append_drop k xss]
  rw [List.flatten_append, List.length_append]
  omega
theorem flatten_takeS {xss : List (List Slc)} {k : Nat} {xs : List Slc} (h : xss[k]? = some xs) : (xss.take (k + 1)).flatten = (xss.take k).flatten ++ xs := by
  rw [List.take_add_one, h]
  simp

theorem ConcatS_spec {p : Slc} {ss : List Slc} {xss : List (List Slc)} {w : World} {K : Slc → World → Prop} (hp : Rd sl2E w p ss) (hss : RdAllS w ss xss) (hl : xss.flatten.length ≤ 1000000) (hn : ss.length ≤ 1000000)
    (hK : ∀ r w', Go.Vc.Own slE w' w.heap.size r xss.flatten → Below w.heap.size w w' → K r w') : c_slices_Concat_line_Line_line_Line p w K := by
  refine call_slices_Concat_line_Line_line_Line _ ?_
  unfold sh_slices_Concat_line_Line_line_Line
  have hpn := hp.n
  obtain ⟨hsl, hss⟩ := hss
  refine loopP_rule (fun (s : Int × Int × Unit) w2 => ∃ k : Nat, s.2.1 = k ∧ k ≤ ss.length ∧ s.1 = ((xss.take k).flatten.length : Nat) ∧ w2 = w) (fun s => ss.length - s.2.1.toNat) ⟨0, rfl, by omega, rfl, rfl⟩ ?_
  rintro ⟨t, i, _⟩ w2 ⟨k, rfl, hk, rfl, rfl⟩ I hI
  dsimp only at *
  have hle := sum_take_leS xss
  refine cond_of (fun hlt => ?_) (fun hge => ?_)
  · have hlt := of_decide_eq_true hlt
    rw [hpn] at hlt
    have hkl : k < ss.length := by omega
    have hx : ss[k]? = some ss[k] := List.getElem?_eq_getElem hkl
    have hy : xss[k]? = some (xss[k]'(by omega)) := List.getElem?_eq_getElem _
    refine hp.ix rfl (by omega) (by omega) fun hc => ?_
    refine ldSl_of (x := ss[k]) (by simpa using hc 0 _ rfl) ?_
    have hr := hss k _ _ hx hy
    have hrn := hr.n
    have hf := flatten_takeS hy
    have h1 := hle (k + 1)
    rw [hf, List.length_append] at h1
    rw [hrn, wrap64_id (by omega)]
    refine cond_f (by simp; omega) ?_
    rw [wrap64_id (by omega)]
    exact hI _ _ ⟨k + 1, by simp, by omega, by rw [hf]; simp, rfl⟩ (by simp; omega)
  · have hge := of_decide_eq_false hge
    rw [hpn] at hge
    have : k = ss.length := by omega
    subst this
    have h1 := hle ss.length
    refine GrowS_nil (by omega) (by omega) fun g w3 ho3 hB3 => ?_
    refine loopP_rule (fun (s : Slc × Int × Unit) w4 => ∃ k : Nat, s.2.1 = k ∧ k ≤ ss.length ∧ Go.Vc.Own slE w4 w2.heap.size s.1 ((xss.take k).flatten) ∧ Below w2.heap.size w2 w4) (fun s => ss.length - s.2.1.toNat) ⟨0, rfl, by omega, by simpa using ho3, hB3⟩ ?_
    rintro ⟨t, i, _⟩ w4 ⟨k, rfl, hk, ho, hB⟩ I2 hI2
    dsimp only at *
    refine cond_of (fun hlt => ?_) (fun hge => ?_)
    · have hlt := of_decide_eq_true hlt
      rw [hpn] at hlt
      have hkl : k < ss.length := by omega
      have hx : ss[k]? = some ss[k] := List.getElem?_eq_getElem hkl
      have hy : xss[k]? = some (xss[k]'(by omega)) := List.getElem?_eq_getElem _
      refine (hp.ext hB).ix rfl (by omega) (by omega) fun hc => ?_
      refine ldSl_of (x := ss[k]) (by simpa using hc 0 _ rfl) ?_
      have hr := (hss k _ _ hx hy).ext hB
      have hf := flatten_takeS hy
      have h1 := hle (k + 1)
      rw [hf, List.length_append] at h1
      refine apK_own slT116 ho hr hB.size (by rw [by116]; omega) (by simp only [maxLen]; omega) fun r w5 ho5 hg5 hr5 => ?_
      rw [wrap64_id (by omega)]
      exact hI2 _ _ ⟨k + 1, by simp, by omega, by rw [hf]; exact ho5, hB.grown hg5 hB.size fun g hg => (ho.lt g hg).1⟩ (by simp; omega)
    · have hge := of_decide_eq_false hge
      rw [hpn] at hge
      have : k = ss.length := by omega
      subst this
      rw [hsl, List.take_length] at ho
      exact hK _ _ ho hB


theorem rdAllS4 {w : World} {a b c d : Slc} {xs ys zs us : List Slc} (ha : Rd slE w a xs) (hb : Rd slE w b ys) (hc : Rd slE w c zs) (hd : Rd slE w d us) : RdAllS w [a, b, c, d] [xs, ys, zs, us] := by
  refine ⟨rfl, fun i s l hs hl => ?_⟩
  match i, hs, hl with
  | 0, hs, hl => cases hs; cases hl; exact ha
  | 1, hs, hl => cases hs; cases hl; exact hb
  | 2, hs, hl => cases hs; cases hl; exact hc
  | 3, hs, hl => cases hs; cases hl; exact hd
  | i + 4, hs, hl => cases hs

/-! ### Many lines -/
/-- Each slice of the list is a row of cells of the call's own. -/
def Lines (w : World) (base : Nat) (ls : List Slc) (xss : List (List Cell)) : Prop := ls.length = xss.length ∧ ∀ (i : Nat) s xs, ls[i]? = some s → xss[i]? = some xs → Go.Vc.Own cellE w base s xs
section
variable {w w' : World} {base : Nat} {ls ms : List Slc} {xss yss : List (List Cell)}
theorem Lines.nil (w : World) (base : Nat) : Lines w base [] [] := ⟨rfl, fun i s xs h => by simp at h⟩
theorem Lines.ext (h : Lines w base ls xss) (hb : Below w.heap.size w w') : Lines w' base ls xss := ⟨h.1, fun i s xs h1 h2 => (h.2 i s xs h1 h2).ext hb⟩
theorem Lines.chg {S : Nat → Prop} (h : Lines w base ls xss) (hc : Chg S w w') (hS : ∀ k cs, S k → ¬ Blk w k ty_api_Cell cs) : Lines w' base ls xss :=
  ⟨h.1, fun i s xs h1 h2 => (h.2 i s xs h1 h2).chg hc fun g hg hs => by
    obtain ⟨cs, hcs⟩ := (h.2 i s xs h1 h2).blk_t hg
    exact hS g cs hs hcs⟩
theorem Lines.append (h : Lines w base ls xss) (h' : Lines w base ms yss) : Lines w base (ls ++ ms) (xss ++ yss) := by
  refine ⟨by rw [List.length_append, List.length_append, h.1, h'.1], fun i s xs h1 h2 => ?_⟩
  rcases Nat.lt_or_ge i ls.length with hi | hi
  · rw [List.getElem?_append_left hi] at h1
    rw [List.getElem?_append_left (by rw [← h.1]; exact hi)] at h2
    exact h.2 i s xs h1 h2
  · rw [List.getElem?_append_right hi] at h1
    rw [List.getElem?_append_right (by rw [← h.1]; exact hi), ← h.1] at h2
    exact h'.2 _ s xs h1 h2
theorem Lines.take (h : Lines w base ls xss) (n : Nat) : Lines w base (ls.take n) (xss.take n) := by
  refine ⟨by simp [h.1], fun i s xs h1 h2 => ?_⟩
  rw [List.getElem?_take] at h1 h2
  split at h1
  · next hi => rw [if_pos hi] at h2; exact h.2 i s xs h1 h2
  · cases h1
theorem Lines.drop (h : Lines w base ls xss) (n : Nat) : Lines w base (ls.drop n) (xss.drop n) := by
  refine ⟨by simp [h.1], fun i s xs h1 h2 => ?_⟩
  rw [List.getElem?_drop] at h1 h2
  exact h.2 _ s xs h1 h2
theorem Lines.set (h : Lines w base ls xss) (i : Nat) {s : Slc} {xs : List Cell} (hs : Go.Vc.Own cellE w base s xs) : Lines w base (ls.set i s) (xss.set i xs) := by
  refine ⟨by simp [h.1], fun j t ys h1 h2 => ?_⟩
  rw [List.getElem?_set] at h1 h2
  by_cases hij : i = j
  · rw [if_pos hij] at h1 h2
    split at h1
    · rw [if_pos (by rw [← h.1]; assumption)] at h2
      cases h1; cases h2; exact hs
    · cases h1
  · rw [if_neg hij] at h1 h2
    exact h.2 j t ys h1 h2
theorem Lines.one {s : Slc} {xs : List Cell} (hs : Go.Vc.Own cellE w base s xs) : Lines w base [s] [xs] := by
  refine ⟨rfl, fun i t ys h1 h2 => ?_⟩
  match i, h1, h2 with
  | 0, h1, h2 => cases h1; cases h2; exact hs
  | i + 1, h1, h2 => cases h1
end
/-! ### Rings -/
/-- Block r is a ring of lines that holds 'old', the eldest first; its row is 's'. -/
def RingM (w : World) (base r : Nat) (s : Slc) (most : Nat) (old : List (List Cell)) : Prop :=
  ∃ (at_ : Nat) (gone : Int) (ls : List Slc) (xss : List (List Cell)), Blk w r ty_ring_Ring_phosphor_line_Line [.int .i64 most, .slice s.a s.n s.c, .int .i64 at_, .int .i64 gone] ∧ Go.Vc.Own slE w base s ls ∧ Lines w base ls xss ∧ base ≤ r ∧
    old = xss.drop at_ ++ xss.take at_ ∧ xss.length ≤ most ∧ (at_ = 0 ∨ (at_ < xss.length ∧ xss.length = most))

theorem RingNew_spec {base : Nat} {most : Int} {w : World} {K : Option Addr → Int → World → Prop} (h0 : 0 ≤ most) (h1 : most ≤ 65536) (hb : base ≤ w.heap.size)
    (hK : ∀ w', RingM w' base w.heap.size ⟨none, 0, 0⟩ most.toNat [] → Below w.heap.size w w' → w'.heap.size = w.heap.size + 1 → K (some ⟨w.heap.size, 0, none⟩) 0 w') : c_ring_New_line_Line most w K := by
  refine call_ring_New_line_Line _ ?_
  unfold sh_ring_New_line_Line
  refine joinP_of fun J hJ => ?_
  refine cond_f (by simpa using h0) (cond_f (by simpa using h1) (hJ _ _ ?_))
  refine nw_blk fun w1 hb1 hB1 hs1 => hK _ ⟨0, 0, [], [], ?_, Go.Vc.Own.nil _ _ _, Lines.nil _ _, hb, rfl, by simp, .inl rfl⟩ hB1 hs1
  rw [show ((most.toNat : Nat) : Int) = most by omega]
  exact hb1

theorem RingLen_spec {base r most : Nat} {s : Slc} {old : List (List Cell)} {w : World} {K : Int → World → Prop} (h : RingM w base r s most old) (hK : K old.length w) : c_ring_Ring_line_Line_Len (some ⟨r, 0, none⟩) w K := by
  obtain ⟨at_, gone, ls, xss, hb, ho, hl, hbr, e, hm, ha⟩ := h
  refine call_ring_Ring_line_Line_Len _ ?_
  unfold sh_ring_Ring_line_Line_Len
  rw [onPtr_some]
  refine ldSl_of (x := s) (hb.cells 1 _ rfl) ?_
  have hn : s.n = old.length := by
    rw [ho.rd.n, hl.1, e, List.length_append, List.length_drop, List.length_take]
    omega
  rw [hn]
  exact hK

end Go.Proofs.YtmoafafalnbkpaaGreatDoor

namespace Go.Proofs.YtmoafafalnbkpaaGreatDoor
open Go.Vc Go.RowKit
def pushL (most : Nat) (old : List (List Cell)) (x : List Cell) : List (List Cell) := if most = 0 then old else if old.length < most then old ++ [x] else old.tail ++ [x]

/-- The ring's own blocks. -/
def ringS (r : Nat) (s : Slc) (k : Nat) : Prop := k = r ∨ s.blk = some k

theorem even_none {r : Nat} {vs : List Value} {w : World} {K : World → Prop} (hb : Blk w r ty_ring_Ring_phosphor_line_Line vs) (h2 : vs[2]? = some (.int .i64 0)) (hK : K w) : c_ring_Ring_line_Line_even (some ⟨r, 0, none⟩) w K := by
  refine call_ring_Ring_line_Line_even _ ?_
  unfold sh_ring_Ring_line_Line_even
  rw [onPtr_some]
  refine ldI_of (x := 0) (hb.cells 2 _ h2) ?_
  exact cond_f rfl hK

theorem ring_ne {w : World} {base r : Nat} {s : Slc} {ls : List Slc} {vs : List Value} (ho : Go.Vc.Own slE w base s ls) (hb : Blk w r ty_ring_Ring_phosphor_line_Line vs) : ∀ k, s.blk = some k → k ≠ r := by
  intro k hk
  obtain ⟨cs, hcs⟩ := ho.blk_t hk
  exact hcs.ne_t hb (by decide)

theorem Push_spec {base r most : Nat} {s t : Slc} {old : List (List Cell)} {xs : List Cell} {w : World} {K : Slc → Bool → World → Prop} (h : RingM w base r s most old) (ht : Go.Vc.Own cellE w base t xs) (hmost : most ≤ 100000) (hbase : base ≤ w.heap.size)
    (hK : ∀ u b s' w', RingM w' base r s' most (pushL most old xs) → Chg (ringS r s) w w' → (s'.blk = s.blk ∨ ∃ k, s'.blk = some k ∧ w.heap.size ≤ k) → K u b w') : c_ring_Ring_line_Line_Push (some ⟨r, 0, none⟩) t w K := by
  obtain ⟨at_, gone, ls, xss, hb, ho, hl, hbr, e, hm, ha⟩ := h
  refine call_ring_Ring_line_Line_Push _ _ ?_
  unfold sh_ring_Ring_line_Line_Push
  simp only [onPtr_some]
  have hsn : s.n = ls.length := ho.rd.n
  have hll := hl.1
  have hol : old.length = xss.length := by rw [e, List.length_append, List.length_drop, List.length_take]; omega
  have notC : ∀ k cs, ringS r s k → ¬ Blk w k ty_api_Cell cs := by
    rintro k cs (rfl | hk) hc
    · exact hc.ne_t hb (by decide) rfl
    · obtain ⟨cs', hcs'⟩ := ho.blk_t hk
      exact hc.ne_t hcs' (by decide) rfl
  refine ldI_of (x := (most : Int)) (hb.cells 0 _ rfl) ?_
  refine cond_of (fun h0 => ?_) (fun h0 => ?_)
  · have h0 : most = 0 := by have := eq_of_beq h0; omega
    refine ldI_of (x := gone) (hb.cells 3 _ rfl) ?_
    rw [add_mk]
    refine stK_blk hb (by simp) fun w1 hb1 hg1 hs1 => ?_
    have hc1 : Chg (ringS r s) w w1 := Chg.of_grown hg1 fun k hk => by cases hk; exact .inl rfl
    refine hK _ _ s w1 ⟨at_, _, ls, xss, hb1, ho.kept hg1 (.inr fun ee => ring_ne ho hb _ ee rfl), hl.chg hc1 notC, hbr, ?_, hm, ha⟩ hc1 (.inl rfl)
    rw [pushL, if_pos h0]
    exact e
  · have h0 : most ≠ 0 := by have := beq_eq_false_iff_ne.1 h0; omega
    have hbd := hb.drew
    refine ldSl_of (x := s) (hbd.cells 1 _ rfl) ?_
    refine ldI_of (x := (most : Int)) (hbd.cells 0 _ rfl) ?_
    refine cond_of (fun h1 => ?_) (fun h1 => ?_)
    · have h1 := of_decide_eq_true h1
      have hat : at_ = 0 := by rcases ha with h | ⟨_, h⟩ <;> omega
      subst hat
      refine even_none hbd rfl ?_
      refine ldSl_of (x := s) (hbd.cells 1 _ rfl) ?_
      refine nw_blk fun w3 hb3 hB3 hs3 => ?_
      have hr3 : Rd slE w3 ⟨some ⟨w.drew.heap.size, 0, none⟩, 1, 1⟩ [t] := rd_one (E := slE) hb3 rfl
      have hB03 : Below w.heap.size w w3 := (Below.refl _ w).drew.trans hB3
      refine apK_own slT116 (ho.ext hB03) hr3 (by have := hB03.size; omega) (by rw [by116]; simp; omega) (by simp [maxLen]; omega) fun q w4 ho4 hg4 hq4 => ?_
      have hb3r := hb.ext hB03
      have hb4 := hb3r.grown hg4 fun ee => ring_ne ho hb _ ee.symm rfl
      rw [add_mk]
      refine stK_blk hb4 (by simp) fun w5 hb5 hg5 hs5 => ?_
      have hc : Chg (ringS r s) w w5 := ((Chg.of_ext (S := ringS r s) hB03).trans (S' := fun k => s.blk = some k) (Chg.of_grown hg4 fun k hk => hk) fun i _ hi => .inr hi).trans (S' := fun k => k = r) (Chg.of_grown hg5 fun k hk => by cases hk; rfl) fun i _ hi => .inl hi
      refine hK _ _ q w5 ⟨0, gone, ls ++ [t], xss ++ [xs], hb5, ho4.kept hg5 (.inr fun ee => ring_ne ho4 hb4 _ ee rfl), (hl.chg hc notC).append (Lines.one (ht.chg hc fun g hg hs => ?_)), hbr, ?_, ?_, .inl rfl⟩ hc ?_
      · obtain ⟨cs, hcs⟩ := ht.blk_t hg
        exact notC g cs hs hcs
      · rw [pushL, if_neg h0, if_pos (by omega), e]
        simp
      · simp; omega
      · rcases hq4 with hh | hh
        · exact .inl hh
        · exact .inr ⟨_, hh, hB03.size⟩
    · have h1 := of_decide_eq_false h1
      have hfull : xss.length = most := by omega
      have hatl : at_ < ls.length := by rcases ha with h | ⟨h, _⟩ <;> omega
      have hbdd : Blk w.drew.drew r ty_ring_Ring_phosphor_line_Line _ := hb
      have hod : Go.Vc.Own slE w.drew.drew base s ls := ho
      refine ldSl_of (x := s) (hbdd.cells 1 _ rfl) ?_
      refine ldI_of (x := (at_ : Int)) (hbdd.cells 2 _ rfl) ?_
      refine hod.rd.ix rfl (by omega) (by omega) fun hc => ?_
      refine ldSl_of (x := ls[at_]) (by simpa using hc 0 _ rfl) ?_
      have hbddd : Blk w.drew.drew.drew r ty_ring_Ring_phosphor_line_Line _ := hb
      have hoddd : Go.Vc.Own slE w.drew.drew.drew base s ls := ho
      refine ldSl_of (x := s) (hbddd.cells 1 _ rfl) ?_
      refine ldI_of (x := (at_ : Int)) (hbddd.cells 2 _ rfl) ?_
      refine hoddd.rd.ix rfl (by omega) (by omega) fun _ => ?_
      refine hoddd.st0 (x := ls[at_]) (y := t) (by rw [show ((at_ : Int)).toNat = at_ from rfl]; exact List.getElem?_eq_getElem _) rfl fun w6 ho6 hg6 hs6 => ?_
      rw [show ((at_ : Int)).toNat = at_ from rfl] at ho6
      have hb6 : Blk w6 r ty_ring_Ring_phosphor_line_Line _ := hbddd.grown hg6 fun ee => ring_ne ho hb _ ee.symm rfl
      have hc6 : Chg (ringS r s) w w6 := ⟨hg6.os, hg6.tape, hg6.output, hg6.size, fun k hk hn => hg6.block k hk fun ee => hn (.inr ee.symm)⟩
      have hbd6 := hb6.drew
      refine ldI_of (x := (at_ : Int)) (hbd6.cells 2 _ rfl) ?_
      refine ldSl_of (x := s) (hbd6.cells 1 _ rfl) ?_
      refine ⟨by omega, ?_⟩
      rw [add_mk]
      refine stK_blk hbd6 (by simp) fun w7 hb7 hg7 hs7 => ?_
      refine ldI_of (x := gone) (hb7.cells 3 _ rfl) ?_
      rw [add_mk]
      refine stK_blk hb7 (by rw [putL_length]; simp) fun w8 hb8 hg8 hs8 => ?_
      have hc7 : Chg (fun k => k = r) w6 w7 := ⟨hg7.os, hg7.tape, hg7.output, hg7.size, fun k hk hn => hg7.block k hk fun ee => hn (by cases ee; rfl)⟩
      have hc8 : Chg (fun k => k = r) w7 w8 := Chg.of_grown hg8 fun k hk => by cases hk; rfl
      have hc : Chg (ringS r s) w w8 := (hc6.trans hc7 fun i _ hi => .inl hi).trans hc8 fun i _ hi => .inl hi
      have ho7 : Go.Vc.Own slE w7 base s (ls.set at_ t) := ho6.chg hc7 fun g hg => ring_ne ho hb g hg
      have ho8 : Go.Vc.Own slE w8 base s (ls.set at_ t) := ho7.chg hc8 fun g hg => ring_ne ho hb g hg
      have ht8 : Go.Vc.Own cellE w8 base t xs := ht.chg hc fun g hg hs => by
        obtain ⟨cs, hcs⟩ := ht.blk_t hg
        exact notC g cs hs hcs
      have hl8 := (hl.chg hc notC).set at_ ht8
      have hmod : (IntKind.i64.wrap ((at_ : Int) + 1)).tmod ((s.n : Nat) : Int) = (((at_ + 1) % xss.length : Nat) : Int) := by
        rw [wrap64_id (by omega), hsn, hll, Int.tmod_eq_emod_of_nonneg (by omega), Int.natCast_emod, Int.natCast_add]
        rfl
      have htail : xss.drop at_ = xss[at_] :: xss.drop (at_ + 1) := List.drop_eq_getElem_cons (by omega)
      have hpush : pushL most old xs = xss.drop (at_ + 1) ++ xss.take at_ ++ [xs] := by
        rw [pushL, if_neg h0, if_neg (by omega), e, htail, List.cons_append, List.tail_cons]
      refine hK _ _ s w8 ⟨(at_ + 1) % xss.length, IntKind.i64.wrap (gone + 1), ls.set at_ t, xss.set at_ xs, ?_, ho8, hl8, hbr, ?_, by simp; omega, ?_⟩ hc (.inl rfl)
      · rw [← hmod]
        exact hb8
      · rw [hpush]
        by_cases hend : at_ + 1 = xss.length
        · rw [hend, Nat.mod_self, List.drop_length]
          simp only [List.nil_append, List.drop_zero, List.take_zero, List.append_nil]
          rw [List.set_eq_take_append_cons_drop, if_pos (by omega), hend, List.drop_length]
        · rw [Nat.mod_eq_of_lt (by omega), List.drop_set_of_lt (by omega), List.append_assoc]
          congr 1
          rw [List.take_set, List.set_eq_take_append_cons_drop, if_pos (by simp; omega), List.take_take, Nat.min_eq_left (by omega), List.drop_take, Nat.sub_self]
          simp
      · by_cases hend : at_ + 1 = xss.length
        · exact .inl (by rw [hend, Nat.mod_self])
        · exact .inr ⟨by rw [Nat.mod_eq_of_lt (by omega)]; simp; omega, by simp; omega⟩

theorem RingClear_spec {base r most : Nat} {s : Slc} {old : List (List Cell)} {w : World} {K : World → Prop} (h : RingM w base r s most old)
    (hK : ∀ w', RingM w' base r ⟨none, 0, 0⟩ most [] → Chg (ringS r s) w w' → K w') : c_ring_Ring_line_Line_Clear (some ⟨r, 0, none⟩) w K := by
  obtain ⟨at_, gone, ls, xss, hb, ho, hl, hbr, e, hm, ha⟩ := h
  refine call_ring_Ring_line_Line_Clear _ ?_
  unfold sh_ring_Ring_line_Line_Clear
  simp only [onPtr_some]
  have hbd := hb.drew
  refine ldI_of (x := gone) (hbd.cells 3 _ rfl) ?_
  refine ldSl_of (x := s) (hbd.cells 1 _ rfl) ?_
  rw [add_mk]
  refine stK_blk hbd (by simp) fun w1 hb1 hg1 hs1 => ?_
  rw [add_mk]
  refine stK_blk hb1 (by rw [putL_length]; simp) fun w2 hb2 hg2 hs2 => ?_
  rw [add_mk]
  refine stK_blk hb2 (by rw [putL_length, putL_length]; simp) fun w3 hb3 hg3 hs3 => ?_
  have hc1 : Chg (ringS r s) w w1 := ⟨hg1.os, hg1.tape, hg1.output, hg1.size, fun k hk hn => hg1.block k hk fun ee => hn (by cases ee; exact .inl rfl)⟩
  have hc2 : Chg (fun k => k = r) w1 w2 := Chg.of_grown hg2 fun k hk => by cases hk; rfl
  have hc3 : Chg (fun k => k = r) w2 w3 := Chg.of_grown hg3 fun k hk => by cases hk; rfl
  exact hK w3 ⟨0, _, [], [], hb3, Go.Vc.Own.nil _ _ _, Lines.nil _ _, hbr, rfl, by simp, .inl rfl⟩ ((hc1.trans hc2 fun i _ hi => .inl hi).trans hc3 fun i _ hi => .inl hi)

end Go.Proofs.YtmoafafalnbkpaaGreatDoor

namespace Go.Proofs.YtmoafafalnbkpaaGreatDoor
open Go.Vc Go.RowKit
structure Foot where
  g : Nat
  r : Nat
  ls : Slc
  rs : Slc
structure GS where
  rows : Nat
  cols : Nat
  most : Nat
  L : List (List Cell)
  old : List (List Cell)
  top : Int

/-- A grid's own blocks (its lines' cells apart, which are never written). -/
def gridS (f : Foot) (k : Nat) : Prop := k = f.g ∨ k = f.r ∨ f.ls.blk = some k ∨ f.rs.blk = some k
structure GridM (w : World) (base : Nat) (f : Foot) (S : GS) : Prop where
  blk : Blk w f.g ty_grid_Grid [.pointer (some ⟨f.r, 0, none⟩), .int .i64 S.rows, .int .i64 S.cols, .slice f.ls.a f.ls.n f.ls.c, .int .i64 S.top]
  hg : base ≤ f.g
  row : ∃ ls, Go.Vc.Own slE w base f.ls ls ∧ Lines w base ls S.L
  ring : RingM w base f.r f.rs S.most S.old
  ne : ∀ k, f.ls.blk = some k → f.rs.blk ≠ some k
/-- The blocks of the later footprint are the elder's, or new. -/
structure Foot.to (f f' : Foot) (n : Nat) : Prop where
  g : f'.g = f.g
  r : f'.r = f.r
  ls : f'.ls.blk = f.ls.blk ∨ ∀ k, f'.ls.blk = some k → n ≤ k
  rs : f'.rs.blk = f.rs.blk ∨ ∀ k, f'.rs.blk = some k → n ≤ k
theorem Foot.to.refl (f : Foot) (n : Nat) : f.to f n := ⟨rfl, rfl, .inl rfl, .inl rfl⟩
theorem Foot.to.old {f f' : Foot} {n : Nat} (h : f.to f' n) : ∀ k, gridS f' k → gridS f k ∨ n ≤ k := by
  rintro k (rfl | rfl | hk | hk)
  · exact .inl (.inl h.g)
  · exact .inl (.inr (.inl h.r))
  · rcases h.ls with e | e
    · exact .inl (.inr (.inr (.inl (by rw [← e]; exact hk))))
    · exact .inr (e k hk)
  · rcases h.rs with e | e
    · exact .inl (.inr (.inr (.inr (by rw [← e]; exact hk))))
    · exact .inr (e k hk)
theorem Foot.to.trans {f f' f'' : Foot} {n n' : Nat} (h : f.to f' n) (h' : f'.to f'' n') (hn : n ≤ n') : f.to f'' n := by
  refine ⟨h'.g.trans h.g, h'.r.trans h.r, ?_, ?_⟩
  · rcases h'.ls with e | e
    · rcases h.ls with e' | e'
      · exact .inl (e.trans e')
      · exact .inr fun k hk => e' k (by rw [← e]; exact hk)
    · exact .inr fun k hk => Nat.le_trans hn (e k hk)
  · rcases h'.rs with e | e
    · rcases h.rs with e' | e'
      · exact .inl (e.trans e')
      · exact .inr fun k hk => e' k (by rw [← e]; exact hk)
    · exact .inr fun k hk => Nat.le_trans hn (e k hk)

section
variable {w w' : World} {base r most : Nat} {s : Slc} {old : List (List Cell)} {f : Foot} {S : GS}
theorem RingM.chg {T : Nat → Prop} (h : RingM w base r s most old) (hc : Chg T w w') (hT : ∀ k, ringS r s k → ¬ T k) (hC : ∀ k cs, T k → ¬ Blk w k ty_api_Cell cs) : RingM w' base r s most old := by
  obtain ⟨at_, gone, ls, xss, hb, ho, hl, hbr, e, hm, ha⟩ := h
  exact ⟨at_, gone, ls, xss, hb.chg hc (hT r (.inl rfl)), ho.chg hc fun g hg => hT g (.inr hg), hl.chg hc hC, hbr, e, hm, ha⟩
theorem RingM.ext (h : RingM w base r s most old) (hb : Below w.heap.size w w') : RingM w' base r s most old :=
  h.chg (Chg.of_ext (S := fun _ => False) hb) (fun _ _ h => h) (fun _ _ h => h.elim)
theorem GridM.chg {T : Nat → Prop} (h : GridM w base f S) (hc : Chg T w w') (hT : ∀ k, gridS f k → ¬ T k) (hC : ∀ k cs, T k → ¬ Blk w k ty_api_Cell cs) : GridM w' base f S := by
  obtain ⟨ls, ho, hl⟩ := h.row
  exact ⟨h.blk.chg hc (hT _ (.inl rfl)), h.hg, ⟨ls, ho.chg hc fun g hg => hT g (.inr (.inr (.inl hg))), hl.chg hc hC⟩,
    h.ring.chg hc (fun k hk => hT k (by rcases hk with hk | hk; exact .inr (.inl hk); exact .inr (.inr (.inr hk)))) hC, h.ne⟩
theorem GridM.ext (h : GridM w base f S) (hb : Below w.heap.size w w') : GridM w' base f S :=
  h.chg (Chg.of_ext (S := fun _ => False) hb) (fun _ _ h => h) (fun _ _ h => h.elim)
theorem GridM.drew (h : GridM w base f S) : GridM w.drew base f S := h.ext ((Below.refl _ w).drew)
theorem RingM.below (h : RingM w base r s most old) : ∀ k, ringS r s k → base ≤ k ∧ k < w.heap.size := by
  obtain ⟨at_, gone, ls, xss, hb, ho, hl, hbr, e, hm, ha⟩ := h
  rintro k (rfl | hk)
  · exact ⟨hbr, hb.lt⟩
  · exact ho.lt k hk
theorem GridM.below (h : GridM w base f S) : ∀ k, gridS f k → base ≤ k ∧ k < w.heap.size := by
  obtain ⟨ls, ho, hl⟩ := h.row
  rintro k (rfl | rfl | hk | hk)
  · exact ⟨h.hg, h.blk.lt⟩
  · exact h.ring.below _ (.inl rfl)
  · exact ho.lt k hk
  · exact h.ring.below _ (.inr hk)
theorem RingM.notC (h : RingM w base r s most old) : ∀ k cs, ringS r s k → ¬ Blk w k ty_api_Cell cs := by
  obtain ⟨at_, gone, ls, xss, hb, ho, hl, hbr, e, hm, ha⟩ := h
  rintro k cs (rfl | hk) hc
  · exact hc.ne_t hb (by decide) rfl
  · obtain ⟨cs', hcs'⟩ := ho.blk_t hk
    exact hc.ne_t hcs' (by decide) rfl
theorem GridM.notC (h : GridM w base f S) : ∀ k cs, gridS f k → ¬ Blk w k ty_api_Cell cs := by
  obtain ⟨ls, ho, hl⟩ := h.row
  rintro k cs (rfl | rfl | hk | hk) hc
  · exact hc.ne_t h.blk (by decide) rfl
  · exact h.ring.notC _ cs (.inl rfl) hc
  · obtain ⟨cs', hcs'⟩ := ho.blk_t hk
    exact hc.ne_t hcs' (by decide) rfl
  · exact h.ring.notC _ cs (.inr hk) hc
/-- The grid's block apart from the ring's blocks and the rows. -/
theorem GridM.g_ne (h : GridM w base f S) : f.g ≠ f.r ∧ (∀ k, f.ls.blk = some k → k ≠ f.g ∧ k ≠ f.r) ∧ (∀ k, f.rs.blk = some k → k ≠ f.g ∧ k ≠ f.r) := by
  obtain ⟨ls, ho, hl⟩ := h.row
  obtain ⟨at_, gone, ls', xss, hb, ho', hl', hbr, e, hm, ha⟩ := h.ring
  refine ⟨h.blk.ne_t hb (by decide), fun k hk => ?_, fun k hk => ?_⟩
  · obtain ⟨cs, hcs⟩ := ho.blk_t hk
    exact ⟨hcs.ne_t h.blk (by decide), hcs.ne_t hb (by decide)⟩
  · obtain ⟨cs, hcs⟩ := ho'.blk_t hk
    exact ⟨hcs.ne_t h.blk (by decide), hcs.ne_t hb (by decide)⟩
end
section
variable {w : World} {base : Nat} {f : Foot} {S : GS}
theorem gis_spec {row : Int} {K : Bool → World → Prop} (h : GridM w base f S) (hK : K (decide (0 ≤ row ∧ row < S.rows)) w) : c_grid_Grid_is (some ⟨f.g, 0, none⟩) row w K := by
  refine call_grid_Grid_is _ _ ?_
  unfold sh_grid_Grid_is
  simp only [onPtr_some]
  refine cond_of (fun h0 => ?_) (fun h0 => ?_)
  · have h0 : 0 ≤ row := of_decide_eq_true h0
    refine ldI_of (x := (S.rows : Int)) (h.blk.cells 1 _ rfl) ?_
    have : decide (row < (S.rows : Int)) = decide (0 ≤ row ∧ row < S.rows) := by simp [h0]
    rw [this]; exact hK
  · have h0 := of_decide_eq_false h0
    have : decide (0 ≤ row ∧ row < (S.rows : Int)) = false := by simp; omega
    rw [this] at hK; exact hK
theorem gTop_spec {K : Int → World → Prop} (h : GridM w base f S) (hK : K S.top w) : c_grid_Grid_Top (some ⟨f.g, 0, none⟩) w K := by
  refine call_grid_Grid_Top _ ?_
  unfold sh_grid_Grid_Top
  simp only [onPtr_some]
  exact ldI_of (x := S.top) (h.blk.cells 4 _ rfl) hK
theorem gSize_spec {K : Int → Int → World → Prop} (h : GridM w base f S) (hK : K S.rows S.cols w.drew) : c_grid_Grid_Size (some ⟨f.g, 0, none⟩) w K := by
  refine call_grid_Grid_Size _ ?_
  unfold sh_grid_Grid_Size
  simp only [onPtr_some]
  exact ldI_of (x := (S.rows : Int)) (h.blk.drew.cells 1 _ rfl) (ldI_of (x := (S.cols : Int)) (h.blk.drew.cells 2 _ rfl) hK)
theorem gBack_spec {K : Int → World → Prop} (h : GridM w base f S) (hK : K S.old.length w) : c_grid_Grid_Back (some ⟨f.g, 0, none⟩) w K := by
  refine call_grid_Grid_Back _ ?_
  unfold sh_grid_Grid_Back
  simp only [onPtr_some]
  refine ldP_of (x := some ⟨f.r, 0, none⟩) (h.blk.cells 0 _ rfl) ?_
  exact RingLen_spec h.ring hK
theorem gFirst_spec {K : Int → World → Prop} (h : GridM w base f S) (hK : K (IntKind.i64.wrap (S.top - S.old.length)) w.drew) : c_grid_Grid_First (some ⟨f.g, 0, none⟩) w K := by
  refine call_grid_Grid_First _ ?_
  unfold sh_grid_Grid_First
  simp only [onPtr_some]
  refine ldI_of (x := S.top) (h.blk.drew.cells 4 _ rfl) ?_
  refine gBack_spec h.drew ?_
  exact ⟨h.blk.drew.cells 4 _ rfl, hK⟩
theorem gLine_spec {row : Int} {K : Slc → Bool → World → Prop} (h : GridM w base f S) (hL : S.L.length = S.rows) (hw : ∀ xs ∈ S.L, xs.length ≤ 1000000)
    (hK1 : ∀ s xs w', 0 ≤ row → S.L[row.toNat]? = some xs → Go.Vc.Own cellE w' w.heap.size s xs → Below w.heap.size w w' → K s true w') (hK2 : ¬ (0 ≤ row ∧ row < S.rows) → K ⟨none, 0, 0⟩ false w) : c_grid_Grid_Line (some ⟨f.g, 0, none⟩) row w K := by
  refine call_grid_Grid_Line _ _ ?_
  unfold sh_grid_Grid_Line
  refine gis_spec h ?_
  simp only [onPtr_some]
  obtain ⟨ls, ho, hl⟩ := h.row
  by_cases hr : 0 ≤ row ∧ row < (S.rows : Int)
  · rw [decide_eq_true hr]
    refine cond_f rfl ?_
    refine ldSl_of (x := f.ls) (h.blk.cells 3 _ rfl) ?_
    have hll := hl.1
    refine ho.rd.ix rfl hr.1 (by omega) fun hc => ?_
    refine ldSl_of (x := ls[row.toNat]'(by omega)) (by simpa using hc 0 _ rfl) ?_
    have hx : S.L[row.toNat]? = some (S.L[row.toNat]'(by omega)) := List.getElem?_eq_getElem _
    have hown := hl.2 _ _ _ (List.getElem?_eq_getElem (by omega : row.toNat < ls.length)) hx
    exact Clone_spec hown.rd (hw _ (List.mem_of_getElem? hx)) fun s w' ho' hB => hK1 s _ w' hr.1 hx ho' hB
  · rw [decide_eq_false hr]
    exact cond_t rfl (hK2 hr)
end
end Go.Proofs.YtmoafafalnbkpaaGreatDoor

namespace Go.Proofs.YtmoafafalnbkpaaGreatDoor
open Go.Vc Go.RowKit
theorem newL_length {n : Nat} (h : n ≤ 1000) (a : Attr) : (newL n a).length = n := by
  rw [newL, if_neg (by omega)]
  simp

section
variable {w : World} {base : Nat} {f : Foot} {S : GS}
theorem gblanks_spec {n : Int} {a : Attr} {K : Slc → World → Prop} (h : GridM w base f S) (hn : n ≤ 100000)
    (hK : ∀ s ls w', Go.Vc.Own slE w' w.heap.size s ls → Lines w' w.heap.size ls (List.replicate n.toNat (newL S.cols a)) → Below w.heap.size w w' → K s w') : c_grid_Grid_blanks (some ⟨f.g, 0, none⟩) n a w K := by
  refine call_grid_Grid_blanks _ _ _ ?_
  unfold sh_grid_Grid_blanks
  simp only [onPtr_some]
  refine nw_blk fun w1 hb1 hB1 hs1 => ?_
  refine loopP_rule (fun (s : Slc × Int × Unit) w2 => ∃ (k : Nat) (ls : List Slc), s.2.1 = k ∧ (k : Int) ≤ max n 0 ∧ Go.Vc.Own slE w2 w.heap.size s.1 ls ∧ Lines w2 w.heap.size ls (List.replicate k (newL S.cols a)) ∧ Blk w2 w.heap.size ty_api_Attr (T_api_Attr.rep.cells a) ∧ Below w.heap.size w w2 ∧ (∀ g, s.1.blk = some g → g ≠ w.heap.size))
    (fun s => (n - s.2.1).toNat) ⟨0, [], rfl, by omega, Go.Vc.Own.nil _ _ _, Lines.nil _ _, hb1, hB1, fun g hg => by cases hg⟩ ?_
  rintro ⟨s, i, _⟩ w2 ⟨k, ls, rfl, hk, ho, hl, hb, hB, hne⟩ I hI
  dsimp only at *
  refine cond_of (fun hh => ?_) (fun hh => ?_)
  · have hh := of_decide_eq_true hh
    have hg2 := (h.ext hB).drew
    refine ldI_of (x := (S.cols : Int)) (hg2.blk.cells 2 _ rfl) ?_
    refine ldS_of (x := a) hb.drew.cells ?_
    refine New_spec fun t w3 ho3 hB3 => ?_
    refine nw_blk fun w4 hb4 hB4 hs4 => ?_
    have hB24 : Below w2.heap.size w2 w4 := ((Below.refl _ w2).drew.trans hB3).trans (hB4.mono hB3.size)
    have hB04 : Below w.heap.size w w4 := hB.trans (hB24.mono hB.size)
    have hr4 : Rd slE w4 ⟨some ⟨w3.heap.size, 0, none⟩, 1, 1⟩ [t] := rd_one (E := slE) hb4 rfl
    have hll := hl.1
    rw [List.length_replicate] at hll
    have hbl := hb.lt
    have hs23 : w2.heap.size ≤ w3.heap.size := hB3.size
    have ho4 := ho.ext hB24
    refine apK_own slT116 ho4 hr4 hB04.size (by rw [by116]; simp; omega) (by simp [maxLen]; omega) fun q w5 ho5 hg5 hq5 => ?_
    rw [wrap64_id (by omega)]
    have notC : ∀ k cs, s.blk = some k → ¬ Blk w4 k ty_api_Cell cs := fun k cs hk hc => by
      obtain ⟨cs', hcs'⟩ := ho4.blk_t hk
      exact hc.ne_t hcs' (by decide) rfl
    have hc5 : Chg (fun k => s.blk = some k) w4 w5 := Chg.of_grown hg5 fun k hk => hk
    have ht4 : Go.Vc.Own cellE w4 w.heap.size t (newL S.cols a) := (ho3.base (by have := hB.size; show w.heap.size ≤ w2.heap.size; omega)).ext hB4
    refine hI _ _ ⟨k + 1, ls ++ [t], by simp, by omega, ho5, ?_, ?_, hB04.grown hg5 hB04.size fun g hg => (ho.lt g hg).1, ?_⟩ (by simp; omega)
    · rw [List.replicate_succ']
      refine Lines.append ((hl.ext hB24).chg hc5 notC) (Lines.one (ht4.chg hc5 fun g hg hs => ?_))
      obtain ⟨cs, hcs⟩ := ht4.blk_t hg
      exact notC g cs hs hcs
    · exact (hb.ext hB24).grown hg5 fun e => hne _ e.symm rfl
    · intro g hg
      rcases hq5 with e | e
      · rw [e] at hg; exact hne g hg
      · rw [e] at hg; cases hg; have := hB24.size; omega
  · have hh := of_decide_eq_false hh
    have : n.toNat = k := by omega
    rw [← this] at hl
    exact hK _ _ _ ho hl hB

/-- The grid gets another row of lines, new or its own turned. -/
theorem GridM.newRow {w1 w2 : World} {s : Slc} {ls : List Slc} {L : List (List Cell)} {top : Int} {B : Nat} (h : GridM w1 base f S) (hrow : Go.Vc.Own slE w1 base s ls) (hl : Lines w1 base ls L) (hne : ∀ k, s.blk = some k → k ≠ f.g ∧ k ≠ f.r ∧ f.rs.blk ≠ some k)
    (hb : Blk w2 f.g ty_grid_Grid [.pointer (some ⟨f.r, 0, none⟩), .int .i64 S.rows, .int .i64 S.cols, .slice s.a s.n s.c, .int .i64 top]) (hg : w1.grownBy w2 (some f.g)) (_ : B ≤ w1.heap.size) : GridM w2 base { f with ls := s } { S with L := L, top := top } := by
  have hc : Chg (fun k => k = f.g) w1 w2 := Chg.of_grown hg fun k hk => by cases hk; rfl
  have notC : ∀ k cs, k = f.g → ¬ Blk w1 k ty_api_Cell cs := fun k cs hk hcs => h.notC k cs (.inl hk) hcs
  obtain ⟨g1, g2, g3⟩ := h.g_ne
  refine ⟨hb, h.hg, ⟨ls, hrow.chg hc fun g hg => (hne g hg).1, hl.chg hc notC⟩, h.ring.chg hc (fun k hk => ?_) notC, fun k hk => (hne k hk).2.2⟩
  rcases hk with rfl | hk
  · exact fun e => g1 e.symm
  · exact (g3 k hk).1

theorem gClear_spec {a : Attr} {K : World → Prop} (h : GridM w base f S) (hrows : S.rows ≤ 100000) (hbase : base ≤ w.heap.size)
    (hK : ∀ f' w', GridM w' base f' { S with L := List.replicate S.rows (newL S.cols a) } → f.to f' w.heap.size → Chg (gridS f) w w' → K w') : c_grid_Grid_Clear (some ⟨f.g, 0, none⟩) a w K := by
  refine call_grid_Grid_Clear _ _ ?_
  unfold sh_grid_Grid_Clear
  simp only [onPtr_some]
  refine nw_blk fun w1 hb1 hB1 hs1 => ?_
  have h1 := (h.ext hB1).drew
  refine ldI_of (x := (S.rows : Int)) (h1.blk.cells 1 _ rfl) ?_
  refine ldS_of (x := a) hb1.drew.cells ?_
  refine gblanks_spec h1 (by omega) fun s ls w2 ho hl hB2 => ?_
  have hB02 : Below w.heap.size w w2 := hB1.drew.trans (hB2.mono hB1.size)
  have h2 := h.ext hB02
  have hfresh : ∀ k, s.blk = some k → w.heap.size ≤ k := fun k hk => by have := (ho.lt k hk).1; have := hB1.size; have e : w1.drew.heap.size = w1.heap.size := rfl; omega
  rw [add_mk]
  refine stK_blk h2.blk (by simp) fun w3 hb3 hg3 hs3 => ?_
  have hsz : w.heap.size ≤ w1.drew.heap.size := hB1.size
  have h3 := h2.newRow (B := 0) (top := S.top) (ho.base (by omega)) (L := List.replicate S.rows (newL S.cols a)) ⟨hl.1, fun i t xs e1 e2 => (hl.2 i t xs e1 e2).base (by omega)⟩ (fun k hk => ?_) hb3 hg3 (Nat.zero_le _)
  · refine hK _ w3 h3 ⟨rfl, rfl, .inr hfresh, .inl rfl⟩ ?_
    exact (Chg.of_ext (S := gridS f) hB02).trans (S' := fun k => k = f.g) (Chg.of_grown hg3 fun k hk => by cases hk; rfl) fun i _ hi => .inl hi
  · have hk' := hfresh k hk
    refine ⟨fun e => ?_, fun e => ?_, fun e => ?_⟩
    · have := (h.below k (.inl e)).2; omega
    · have := (h.below k (.inr (.inl e))).2; omega
    · have := (h.below k (.inr (.inr (.inr e)))).2; omega

theorem gSet_spec {row : Int} {l : Slc} {xs : List Cell} {K : Bool → World → Prop} (h : GridM w base f S) (hx : Rd cellE w l xs) (hxl : xs.length ≤ 10000) (hL : S.L.length = S.rows) (hbase : base ≤ w.heap.size)
    (hK1 : ∀ w', (0 ≤ row ∧ row < S.rows) → GridM w' base f { S with L := S.L.set row.toNat (resL xs S.cols) } → Chg (gridS f) w w' → K true w') (hK2 : ¬ (0 ≤ row ∧ row < S.rows) → K false w) : c_grid_Grid_Set (some ⟨f.g, 0, none⟩) row l w K := by
  refine call_grid_Grid_Set _ _ _ ?_
  unfold sh_grid_Grid_Set
  simp only [onPtr_some]
  refine joinP_of fun J hJ => ?_
  refine gis_spec h ?_
  by_cases hr : 0 ≤ row ∧ row < (S.rows : Int)
  · rw [decide_eq_true hr]
    refine cond_t rfl ?_
    refine ldSl_of (x := f.ls) (h.drew.blk.cells 3 _ rfl) ?_
    refine ldI_of (x := (S.cols : Int)) (h.drew.blk.cells 2 _ rfl) ?_
    refine Resize_spec hx.drew hxl fun t w4 ht hB4 => ?_
    have hB04 : Below w.heap.size w w4 := (Below.refl _ w).drew.trans hB4
    have h4 := h.ext hB04
    refine ⟨h4.blk.cells 3 _ rfl, ?_⟩
    obtain ⟨ls, ho, hl⟩ := h4.row
    have hll := hl.1
    refine ho.rd.ix rfl hr.1 (by omega) fun _ => ?_
    refine ho.st0 (x := ls[row.toNat]'(by omega)) (List.getElem?_eq_getElem _) (y := t) rfl fun w5 ho5 hg5 hs5 => ?_
    have hc5 : Chg (fun k => f.ls.blk = some k) w4 w5 := Chg.of_grown hg5 fun k hk => hk
    have notC : ∀ k cs, f.ls.blk = some k → ¬ Blk w4 k ty_api_Cell cs := fun k cs hk => h4.notC k cs (.inr (.inr (.inl hk)))
    have ht4 : Go.Vc.Own cellE w4 base t (resL xs S.cols) := ht.base hbase
    obtain ⟨g1, g2, g3⟩ := h4.g_ne
    have hc : Chg (gridS f) w w5 := (Chg.of_ext (S := gridS f) hB04).trans hc5 fun i _ hi => .inr (.inr (.inl hi))
    have h5 : GridM w5 base f { S with L := S.L.set row.toNat (resL xs S.cols) } := by
      refine ⟨h4.blk.chg hc5 fun e => (g2 _ e).1 rfl, h4.hg, ⟨ls.set row.toNat t, ho5, (hl.chg hc5 notC).set row.toNat (ht4.chg hc5 fun g hg hs => ?_)⟩, h4.ring.chg hc5 (fun k hk hs => ?_) notC, h4.ne⟩
      · obtain ⟨cs, hcs⟩ := ht4.blk_t hg
        exact notC g cs hs hcs
      · rcases hk with rfl | hk
        · exact (g2 _ hs).2 rfl
        · exact h4.ne k hs hk
    refine hJ _ _ (gis_spec h5 ?_)
    rw [decide_eq_true hr]
    exact hK1 w5 hr h5 hc
  · rw [decide_eq_false hr]
    refine cond_f rfl (hJ _ _ (gis_spec h ?_))
    rw [decide_eq_false hr]
    exact hK2 hr

theorem gForget_spec {K : World → Prop} (h : GridM w base f S)
    (hK : ∀ w', GridM w' base { f with rs := ⟨none, 0, 0⟩ } { S with old := [] } → Chg (gridS f) w w' → K w') : c_grid_Grid_Forget (some ⟨f.g, 0, none⟩) w K := by
  refine call_grid_Grid_Forget _ ?_
  unfold sh_grid_Grid_Forget
  simp only [onPtr_some]
  refine ldP_of (x := some ⟨f.r, 0, none⟩) (h.blk.cells 0 _ rfl) ?_
  refine RingClear_spec h.ring fun w1 hr1 hc1 => ?_
  obtain ⟨g1, g2, g3⟩ := h.g_ne
  obtain ⟨ls, ho, hl⟩ := h.row
  refine hK w1 ⟨h.blk.chg hc1 fun e => ?_, h.hg, ⟨ls, ho.chg hc1 fun g hg hs => ?_, hl.chg hc1 h.ring.notC⟩, hr1, fun k _ hk => by cases hk⟩ (hc1.mono fun i _ hi => ?_)
  · rcases e with e | e
    · exact g1 e
    · exact (g3 _ e).1 rfl
  · rcases hs with e | e
    · exact (g2 g hg).2 e
    · exact h.ne g hg e
  · rcases hi with e | e
    · exact .inr (.inl e)
    · exact .inr (.inr (.inr e))
end
/-- A new grid. -/
def gs0 (rows cols most : Nat) : GS := ⟨rows, cols, most, List.replicate rows (newL cols ⟨0, 0, 0⟩), [], 0⟩
def badGrid (rows cols back : Int) : Prop := ¬ (1 ≤ rows ∧ rows ≤ 1000) ∨ ¬ (1 ≤ cols ∧ cols ≤ 1000) ∨ back < 0 ∨ back > 16384
theorem gNew_spec {rows cols back : Int} {w : World} {K : Option Addr → Int → World → Prop} (hK1 : badGrid rows cols back → K none 1 w)
    (hK2 : ¬ badGrid rows cols back → ∀ f w', GridM w' w.heap.size f (gs0 rows.toNat cols.toNat back.toNat) → Below w.heap.size w w' → K (some ⟨f.g, 0, none⟩) 0 w') : c_grid_New rows cols back w K := by
  refine call_grid_New _ _ _ ?_
  unfold sh_grid_New
  have size : ∀ {n : Int} {K : Bool → World → Prop}, K (decide (1 ≤ n ∧ n ≤ 1000)) w → c_grid_size n w K := by
    intro n K hk
    refine call_grid_size _ ?_
    unfold sh_grid_size
    refine cond_of (fun h => ?_) (fun h => ?_)
    · have h : 1 ≤ n := of_decide_eq_true h
      have : decide (n ≤ 1000) = decide (1 ≤ n ∧ n ≤ 1000) := by simp [h]
      rw [this]; exact hk
    · have h := of_decide_eq_false h
      have : decide (1 ≤ n ∧ n ≤ 1000) = false := by simp; omega
      rw [this] at hk; exact hk
  refine joinP_of fun J hJ => ?_
  refine size ?_
  by_cases h1 : 1 ≤ rows ∧ rows ≤ 1000
  · rw [decide_eq_true h1]
    refine cond_f rfl (size ?_)
    by_cases h2 : 1 ≤ cols ∧ cols ≤ 1000
    · rw [decide_eq_true h2]
      refine cond_f rfl ?_
      refine cond_of (fun h3 => hK1 (.inr (.inr (.inl (of_decide_eq_true h3))))) (fun h3 => ?_)
      refine cond_of (fun h4 => hK1 (.inr (.inr (.inr (of_decide_eq_true h4))))) (fun h4 => ?_)
      have h3 := of_decide_eq_false h3
      have h4 := of_decide_eq_false h4
      have hgood : ¬ badGrid rows cols back := by unfold badGrid; omega
      refine hJ _ _ ?_
      refine RingNew_spec (base := w.heap.size) (by omega) (by omega) (Nat.le_refl _) fun w1 hr1 hB1 hs1 => ?_
      refine nw_blk fun w2 hb2 hB2 hs2 => ?_
      have hB02 : Below w.heap.size w w2 := hB1.trans (hB2.mono (by omega))
      have hg2 : GridM w2 w.heap.size ⟨w1.heap.size, w.heap.size, ⟨none, 0, 0⟩, ⟨none, 0, 0⟩⟩ ⟨rows.toNat, cols.toNat, back.toNat, [], [], 0⟩ := by
        refine ⟨?_, by show w.heap.size ≤ w1.heap.size; omega, ⟨[], Go.Vc.Own.nil _ _ _, Lines.nil _ _⟩, hr1.ext hB2, fun k hk => by cases hk⟩
        show Blk w2 w1.heap.size ty_grid_Grid [_, .int .i64 ((rows.toNat : Nat) : Int), .int .i64 ((cols.toNat : Nat) : Int), _, _]
        rw [show ((rows.toNat : Nat) : Int) = rows by omega, show ((cols.toNat : Nat) : Int) = cols by omega]
        exact hb2
      refine gClear_spec (f := ⟨w1.heap.size, w.heap.size, ⟨none, 0, 0⟩, ⟨none, 0, 0⟩⟩) hg2 (by show rows.toNat ≤ 100000; omega) hB02.size fun f' w3 hg3 hf hc => ?_
      have hg' : f'.g = w1.heap.size := hf.g
      have key := hK2 hgood f' w3 hg3 (hB02.trans (hc.below hB02.size fun i hi hs => by have := (hg2.below i hs).1; omega))
      rw [hg'] at key
      exact key
    · rw [decide_eq_false h2]
      exact cond_t rfl (hK1 (.inr (.inl h2)))
  · rw [decide_eq_false h1]
    exact cond_t rfl (hK1 (.inl h1))

end Go.Proofs.YtmoafafalnbkpaaGreatDoor

namespace Go.Vc
open Go.RowKit
end Go.Vc
namespace Go.Proofs.YtmoafafalnbkpaaGreatDoor
open Go.Vc Go.RowKit
def scrollBad (rows : Nat) (top past n : Int) : Prop := n = 0 ∨ top < 0 ∨ past ≤ top ∨ past > rows
instance (rows : Nat) (top past n : Int) : Decidable (scrollBad rows top past n) := by unfold scrollBad; infer_instance
/-- How many lines go. -/
def scrollM (top past n : Int) : Nat := (min (if n < 0 then -n else n) (past - top)).toNat
def scrollL (cols : Nat) (L : List (List Cell)) (top past n : Int) (a : Attr) : List (List Cell) :=
  let m := scrollM top past n
  let b := List.replicate m (newL cols a)
  if n > 0 then L.take top.toNat ++ (L.take past.toNat).drop (top.toNat + m) ++ b ++ L.drop past.toNat
  else L.take top.toNat ++ b ++ (L.take (past.toNat - m)).drop top.toNat ++ L.drop past.toNat
def pushAll (most : Nat) (old : List (List Cell)) (xs : List (List Cell)) : List (List Cell) := xs.foldl (pushL most) old
def scrollG (S : GS) (top past n : Int) (a : Attr) : GS :=
  if scrollBad S.rows top past n then S
  else if n > 0 ∧ top = 0 then { S with L := scrollL S.cols S.L top past n a, old := pushAll S.most S.old (S.L.take (scrollM top past n)), top := IntKind.i64.wrap (S.top + scrollM top past n) }
  else { S with L := scrollL S.cols S.L top past n a }
def scrollR (rows : Nat) (top past n : Int) : Int := if scrollBad rows top past n ∨ n < 0 ∨ top ≠ 0 then 0 else scrollM top past n

theorem pushAll_succ (most : Nat) (old : List (List Cell)) (L : List (List Cell)) (k : Nat) (x : List Cell) (h : L[k]? = some x) : pushAll most old (L.take (k + 1)) = pushL most (pushAll most old (L.take k)) x := by
  rw [pushAll, List.take_add_one, h, List.foldl_append]
  rfl

end Go.Proofs.YtmoafafalnbkpaaGreatDoor

namespace Go.Proofs.YtmoafafalnbkpaaGreatDoor
open Go.Vc Go.RowKit
theorem take_drop_take {α : Type} (l : List α) (a m : Nat) : ((l.drop a).take m) = (l.take (a + m)).drop a := by
  rw [List.drop_take]
  congr 1
  omega

/-- The pushes of the lines that go, one behind the other. -/
theorem pushes {w : World} {base m : Nat} {f : Foot} {S : GS} {p : Slc} {ls : List Slc} {xss : List (List Cell)} {Fin : Int × Unit → World → Prop} (h : GridM w base f S) (hp : Rd slE w p ls) (hpn : ls.length = m) (hl : Lines w base ls xss) (hpf : ∀ a, p.a = some a → ¬ gridS f a.block)
    (hmost : S.most ≤ 100000) (hbase : base ≤ w.heap.size) (hm : m ≤ 100000)
    (hfin : ∀ i f' w', GridM w' base f' { S with old := pushAll S.most S.old xss } → f.to f' w.heap.size → f'.ls = f.ls → Chg (gridS f) w w' → Fin (i, ()) w') :
    loopP (σ := Int × Unit) (fun I3 s_2 w12 =>
      cond (decide (s_2.1 < ((p.n : Nat) : Int)))
        (ixK p s_2.1 1 fun t127 =>
         ldSl t127 w12 fun t128 =>
         ldP ((⟨f.g, 0, none⟩ : Addr).add 0) w12 fun t132 =>
         c_ring_Ring_line_Line_Push t132 t128 w12 fun _ _ w13 =>
         I3 ((IntKind.i64.wrap (s_2.1 + (1 : Int))), ()) w13)
        (Fin s_2 w12)) (0, ()) w := by
  have hpn' : p.n = m := by rw [hp.n, hpn]
  have hxl : xss.length = m := by rw [← hl.1, hpn]
  refine loopP_rule (fun (s : Int × Unit) w2 => ∃ (k : Nat) (f' : Foot), s.1 = k ∧ k ≤ m ∧ GridM w2 base f' { S with old := pushAll S.most S.old (xss.take k) } ∧ f.to f' w.heap.size ∧ f'.ls = f.ls ∧ Chg (gridS f) w w2) (fun s => m - s.1.toNat) ⟨0, f, rfl, by omega, by simpa [pushAll] using h, Foot.to.refl _ _, rfl, Chg.refl _ _⟩ ?_
  rintro ⟨i, _⟩ w2 ⟨k, f', rfl, hk, h2, hf, hfl, hc⟩ I hI
  dsimp only at *
  rw [hpn']
  refine cond_of (fun hlt => ?_) (fun hge => ?_)
  · have hlt := of_decide_eq_true hlt
    have hp2 : Rd slE w2 p ls := hp.chg hc hpf
    have hl2 : Lines w2 base ls xss := hl.chg hc h.notC
    refine hp2.ix rfl (by omega) (by omega) fun hcell => ?_
    have hlk : ls[k]? = some (ls[k]'(by omega)) := List.getElem?_eq_getElem _
    have hxk : xss[k]? = some (xss[k]'(by omega)) := List.getElem?_eq_getElem _
    refine ldSl_of (x := ls[k]'(by omega)) (by simpa using hcell 0 _ rfl) ?_
    have hb2 := h2.blk
    rw [hf.g, hf.r] at hb2
    refine ldP_of (x := some ⟨f.r, 0, none⟩) (hb2.cells 0 _ rfl) ?_
    have hr2 := h2.ring
    rw [hf.r] at hr2
    have hsz := hc.size
    refine Push_spec hr2 (hl2.2 k _ _ hlk hxk) hmost (by omega) fun u b s' w3 hr3 hc3 hs' => ?_
    rw [wrap64_id (by omega)]
    have sub : ∀ i, ringS f.r f'.rs i → gridS f i ∨ w.heap.size ≤ i := fun i hi => by
      refine hf.old i ?_
      rcases hi with e | e
      · exact .inr (.inl (by rw [e, hf.r]))
      · exact .inr (.inr (.inr e))
    have hc' : Chg (gridS f) w w3 := hc.trans hc3 fun i hi hs => by
      rcases sub i hs with e | e
      · exact e
      · omega
    have notr : ∀ k cs, ringS f.r f'.rs k → ¬ Blk w2 k ty_api_Cell cs := hr2.notC
    obtain ⟨ls', ho', hl'⟩ := h2.row
    obtain ⟨g1, g2, g3⟩ := h2.g_ne
    refine hI _ _ ⟨k + 1, { f' with rs := s' }, by simp, by omega, ⟨?_, h2.hg, ⟨ls', ho'.chg hc3 fun g hg hs => ?_, hl'.chg hc3 notr⟩, ?_, ?_⟩, ?_, hfl, hc'⟩ (by simp; omega)
    · refine h2.blk.chg hc3 fun e => ?_
      rcases e with e | e
      · exact g1 (by rw [e, hf.r])
      · exact (g3 _ e).1 rfl
    · rcases hs with e | e
      · exact (g2 g hg).2 (by rw [e, hf.r])
      · exact h2.ne g hg e
    · show RingM w3 base f'.r s' S.most (pushAll S.most S.old (xss.take (k + 1)))
      rw [pushAll_succ _ _ _ _ _ hxk, hf.r]
      exact hr3
    · intro k' hk' e
      rcases hs' with e' | ⟨q, e', hq⟩
      · rw [e'] at e; exact h2.ne k' hk' e
      · rw [e'] at e
        cases e
        have := (h2.below k' (.inr (.inr (.inl hk')))).2
        omega
    · refine ⟨hf.g, hf.r, hf.ls, ?_⟩
      rcases hs' with e' | ⟨q, e', hq⟩
      · rcases hf.rs with e | e
        · exact .inl (e'.trans e)
        · exact .inr fun k' hk' => e k' (by rw [← e']; exact hk')
      · exact .inr fun k' hk' => by rw [e'] at hk'; cases hk'; omega
  · have hge := of_decide_eq_false hge
    have : k = m := by omega
    subst this
    rw [List.take_of_length_le (by omega)] at h2
    exact hfin _ f' w2 h2 hf hfl hc

end Go.Proofs.YtmoafafalnbkpaaGreatDoor

namespace Go.Proofs.YtmoafafalnbkpaaGreatDoor
open Go.Vc Go.RowKit
theorem cut_block {x : Option Addr} {l m k : Nat} {a : Addr} (h : cut x l m k = some a) : ∃ b, x = some b ∧ a.block = b.block := by
  unfold cut at h
  split at h
  · exact ⟨a, h, rfl⟩
  · obtain ⟨b, hb, rfl⟩ := Option.map_eq_some_iff.1 h
    exact ⟨b, hb, by simp⟩

theorem gScroll_spec {w : World} {base : Nat} {f : Foot} {S : GS} {top past n : Int} {a : Attr} {K : Int → World → Prop} (h : GridM w base f S) (hL : S.L.length = S.rows) (hrows : S.rows ≤ 1000) (hmost : S.most ≤ 100000) (hbase : base ≤ w.heap.size) (hn : -9223372036854775808 ≤ n ∧ n ≤ 9223372036854775807)
    (hK : ∀ f' w', GridM w' base f' (scrollG S top past n a) → f.to f' w.heap.size → Chg (gridS f) w w' → K (scrollR S.rows top past n) w') : c_grid_Grid_Scroll (some ⟨f.g, 0, none⟩) top past n a w K := by
  refine call_grid_Grid_Scroll _ _ _ _ _ ?_
  unfold sh_grid_Grid_Scroll
  simp only [onPtr_some]
  refine nw_blk fun w1 hb1 hB1 hs1 => ?_
  have h1 := h.ext hB1
  refine joinP_of fun J1 hJ1 => ?_
  have bad : scrollBad S.rows top past n → K 0 w1 := fun hb => by
    have := hK f w1 (by rw [scrollG, if_pos hb]; exact h1) (Foot.to.refl _ _) (Chg.of_ext hB1)
    rwa [scrollR, if_pos (.inl hb)] at this
  refine cond_of (fun e => bad (.inl (eq_of_beq e))) (fun e0 => ?_)
  refine cond_of (fun e => bad (.inr (.inl (of_decide_eq_true e)))) (fun e1 => ?_)
  refine cond_of (fun e => bad (.inr (.inr (.inl (of_decide_eq_true e))))) (fun e2 => ?_)
  refine ldI_of (x := (S.rows : Int)) (h1.blk.cells 1 _ rfl) ?_
  refine cond_of (fun e => bad (.inr (.inr (.inr (of_decide_eq_true e))))) (fun e3 => ?_)
  have e0 : n ≠ 0 := beq_eq_false_iff_ne.1 e0
  have e1 := of_decide_eq_false e1
  have e2 := of_decide_eq_false e2
  have e3 := of_decide_eq_false e3
  have good : ¬ scrollBad S.rows top past n := by unfold scrollBad; omega
  refine hJ1 _ _ ?_
  rw [wrap64_id (x := past - top) (by omega), wrap64_id (x := 0 - (past - top)) (by omega)]
  refine joinP_of fun J2 hJ2 => ?_
  have hm : (scrollM top past n : Int) = min (if n < 0 then -n else n) (past - top) := by unfold scrollM; split <;> omega
  unfold scrollG scrollL at hK
  unfold scrollR at hK
  rw [if_neg good] at hK
  generalize scrollM top past n = m at *
  have hm0 : 1 ≤ m := by split at hm <;> omega
  have hm1 : (m : Int) ≤ past - top := by split at hm <;> omega
  obtain ⟨tp, rfl⟩ : ∃ tp : Nat, top = tp := ⟨top.toNat, by omega⟩
  obtain ⟨ps, rfl⟩ : ∃ ps : Nat, past = ps := ⟨past.toNat, by omega⟩
  have main : ∀ c : Int, (if IntKind.i64.wrap (0 - c) > c then IntKind.i64.wrap (0 - c) else c) = (m : Int) → J2 (c, ()) w1 := fun c hc => hJ2 _ _ (by
    dsimp only
    rw [hc]
    obtain ⟨ls, ho, hl⟩ := h1.row
    have hll := hl.1
    refine ldSl_of (x := f.ls) (h1.blk.cells 3 _ rfl) ?_
    refine ho.rd.slK3 (l := tp) (m := ps) rfl (.inr rfl) rfl rfl (by omega) (by omega) fun hpart => ?_
    have h1d := h1.drew
    have hod : Go.Vc.Own slE w1.drew base f.ls ls := ho
    have hbd := hb1.drew
    refine cond_of (fun hneg => ?_) (fun hpos => ?_)
    · have hneg : n < 0 := by
        have : ¬ n > 0 := by simpa using hneg
        omega
      refine ldSl_of (x := f.ls) (h1d.blk.cells 3 _ rfl) ?_
      refine hod.rd.slK3 (l := 0) (m := tp) rfl (.inl ⟨rfl, rfl⟩) rfl rfl (by omega) (by omega) fun hfront => ?_
      refine ldS_of (x := a) hbd.cells ?_
      rw [wrap64_id (x := (ps : Int) - tp - m) (by omega)]
      refine hpart.drew.slK (l := 0) (m := ps - tp - m) rfl (.inl ⟨rfl, rfl⟩) (.inr (by simp; omega)) (by omega) (by simp; omega) fun hmid => ?_
      refine ldSl_of (x := f.ls) (h1d.blk.cells 3 _ rfl) ?_
      refine hod.rd.slK (l := ps) (m := ls.length) rfl (.inr rfl) (.inl ⟨rfl, rfl⟩) (by omega) (Nat.le_refl _) fun hback => ?_
      refine gblanks_spec h1d (by omega) fun b bls w4 hob hlb hB4 => ?_
      have hB14 : Below w1.heap.size w1 w4 := (Below.refl _ w1).drew.trans hB4
      have hB04 : Below w.heap.size w w4 := hB1.trans (hB14.mono hB1.size)
      have h4 := h1.ext hB14
      refine ⟨h4.blk.cells 3 _ rfl, h4.blk.cells 3 _ rfl, ?_⟩
      refine nw_blk fun w5 hb5 hB5 hs5 => ?_
      have hB45 : Below w1.drew.heap.size w1.drew w5 := hB4.trans (hB5.mono hB4.size)
      have hA := rdAllS4 (hfront.ext hB45) (hob.rd.ext hB5) (hmid.ext hB45) (hback.ext hB45)
      have hbl := hlb.1
      rw [List.length_replicate] at hbl
      refine ConcatS_spec ?_ hA ?_ (by simp) fun q w6 ho6 hB6 => ?_
      · exact rd_lits (E := sl2E) (ys := [_, _, _, _]) hb5 (by simp [maxLen]) rfl
      · simp; omega
      have hB06 : Below w.heap.size w w6 := hB04.trans ((hB5.trans (hB6.mono hB5.size)).mono hB04.size)
      have hB16 : Below w1.heap.size w1 w6 := hB14.trans ((hB5.trans (hB6.mono hB5.size)).mono hB14.size)
      have hB46 : Below w4.heap.size w4 w6 := hB5.trans (hB6.mono hB5.size)
      have h6 := h1.ext hB16
      have hl6 := hl.ext hB16
      have hs15 : w1.heap.size ≤ w5.heap.size := by have := hB14.size; have := hB5.size; omega
      have hs01 := hB1.size
      have hlb6 : Lines w6 base bls (List.replicate m (newL S.cols a)) := ⟨hlb.1, fun i t xs x1 x2 => ((hlb.2 i t xs x1 x2).ext hB46).base (by show base ≤ w1.heap.size; omega)⟩
      have hfresh : ∀ k, q.blk = some k → w.heap.size ≤ k := fun k hk => by have := (ho6.lt k hk).1; omega
      have hrow := ho6.base (base' := base) (by omega)
      have hlines := (((hl6.take tp).drop 0).append (hlb6.append (((((hl6.take ps).drop tp).take (ps - tp - m)).drop 0).append (((hl6.take ls.length).drop ps).append (Lines.nil w6 base)))))
      rw [add_mk]
      refine stK_blk h6.blk (by simp) fun w7 hb7 hg7 hs7 => ?_
      have h7 := h6.newRow (B := 0) (top := S.top) hrow hlines (fun k hk => ?_) hb7 hg7 (Nat.zero_le _)
      · have hneg' : ¬ (n > 0 ∧ (tp : Int) = 0) := by omega
        have hneg2 : ¬ n > 0 := by omega
        rw [if_neg hneg', if_neg hneg2, if_pos (.inr (.inl hneg))] at hK
        refine hK ⟨f.g, f.r, q, f.rs⟩ w7 ?_ ⟨rfl, rfl, .inr hfresh, .inl rfl⟩ ((Chg.of_ext (S := gridS f) hB06).trans (S' := fun k => k = f.g) (Chg.of_grown hg7 fun k hk => by cases hk; rfl) fun i _ hi => .inl hi)
        have e : List.take tp S.L ++ List.replicate m (newL S.cols a) ++ List.drop tp (List.take (ps - m) S.L) ++ List.drop ps S.L = List.drop 0 (List.take tp S.L) ++ (List.replicate m (newL S.cols a) ++ (List.drop 0 (List.take (ps - tp - m) (List.drop tp (List.take ps S.L))) ++ (List.drop ps (List.take ls.length S.L) ++ []))) := by
          rw [List.drop_zero, List.drop_zero, List.append_nil, take_drop_take, List.take_take, hll, List.take_length]
          rw [show min (tp + (ps - tp - m)) ps = ps - m by omega]
          simp
        rw [show ((tp : Int)).toNat = tp from rfl, show ((ps : Int)).toNat = ps from rfl, e]
        exact h7
      · have hk' := hfresh k hk
        refine ⟨fun e => ?_, fun e => ?_, fun e => ?_⟩
        · have := (h.below k (.inl e)).2; omega
        · have := (h.below k (.inr (.inl e))).2; omega
        · have := (h.below k (.inr (.inr (.inr e)))).2; omega
    · have hpos : n > 0 := by simpa using hpos
      refine hpart.drew.slK3 (l := 0) (m := m) rfl (.inl ⟨rfl, rfl⟩) rfl rfl (by omega) (by simp; omega) fun hgone => ?_
      refine ldSl_of (x := f.ls) (h1d.blk.cells 3 _ rfl) ?_
      refine hod.rd.slK3 (l := 0) (m := tp) rfl (.inl ⟨rfl, rfl⟩) rfl rfl (by omega) (by omega) fun hfront => ?_
      refine hpart.drew.slK (l := m) (m := ((ls.take ps).drop tp).length) rfl (.inr rfl) (.inl ⟨rfl, rfl⟩) (by simp; omega) (Nat.le_refl _) fun hrest => ?_
      refine ldS_of (x := a) hbd.cells ?_
      refine ldSl_of (x := f.ls) (h1d.blk.cells 3 _ rfl) ?_
      refine hod.rd.slK (l := ps) (m := ls.length) rfl (.inr rfl) (.inl ⟨rfl, rfl⟩) (by omega) (Nat.le_refl _) fun hback => ?_
      refine gblanks_spec h1d (by omega) fun b bls w4 hob hlb hB4 => ?_
      have hB14 : Below w1.heap.size w1 w4 := (Below.refl _ w1).drew.trans hB4
      have hB04 : Below w.heap.size w w4 := hB1.trans (hB14.mono hB1.size)
      have h4 := h1.ext hB14
      refine ⟨h4.blk.cells 3 _ rfl, h4.blk.cells 3 _ rfl, ?_⟩
      refine nw_blk fun w5 hb5 hB5 hs5 => ?_
      have hB45 : Below w1.drew.heap.size w1.drew w5 := hB4.trans (hB5.mono hB4.size)
      have hA := rdAllS4 (hfront.ext hB45) (hrest.ext hB45) (hob.rd.ext hB5) (hback.ext hB45)
      have hbl := hlb.1
      rw [List.length_replicate] at hbl
      refine ConcatS_spec ?_ hA ?_ (by simp) fun q w6 ho6 hB6 => ?_
      · exact rd_lits (E := sl2E) (ys := [_, _, _, _]) hb5 (by simp [maxLen]) rfl
      · simp; omega
      have hB06 : Below w.heap.size w w6 := hB04.trans ((hB5.trans (hB6.mono hB5.size)).mono hB04.size)
      have hB16 : Below w1.heap.size w1 w6 := hB14.trans ((hB5.trans (hB6.mono hB5.size)).mono hB14.size)
      have hB46 : Below w4.heap.size w4 w6 := hB5.trans (hB6.mono hB5.size)
      have h6 := h1.ext hB16
      have hl6 := hl.ext hB16
      have hs15 : w1.heap.size ≤ w5.heap.size := by have := hB14.size; have := hB5.size; omega
      have hs01 := hB1.size
      have hlb6 : Lines w6 base bls (List.replicate m (newL S.cols a)) := ⟨hlb.1, fun i t xs x1 x2 => ((hlb.2 i t xs x1 x2).ext hB46).base (by show base ≤ w1.heap.size; omega)⟩
      have hfresh : ∀ k, q.blk = some k → w.heap.size ≤ k := fun k hk => by have := (ho6.lt k hk).1; omega
      have hrow := ho6.base (base' := base) (by omega)
      have hlines := (((hl6.take tp).drop 0).append (((((hl6.take ps).drop tp).take ((ls.take ps).drop tp).length).drop m).append (hlb6.append (((hl6.take ls.length).drop ps).append (Lines.nil w6 base)))))
      rw [add_mk]
      refine stK_blk h6.blk (by simp) fun w7 hb7 hg7 hs7 => ?_
      have hqne : ∀ k, q.blk = some k → k ≠ f.g ∧ k ≠ f.r ∧ f.rs.blk ≠ some k := fun k hk => by
        have hk' := hfresh k hk
        refine ⟨fun e => ?_, fun e => ?_, fun e => ?_⟩
        · have := (h.below k (.inl e)).2; omega
        · have := (h.below k (.inr (.inl e))).2; omega
        · have := (h.below k (.inr (.inr (.inr e)))).2; omega
      have h7 := h6.newRow (B := 0) (top := S.top) hrow hlines hqne hb7 hg7 (Nat.zero_le _)
      have e : List.take tp S.L ++ List.drop (tp + m) (List.take ps S.L) ++ List.replicate m (newL S.cols a) ++ List.drop ps S.L = List.drop 0 (List.take tp S.L) ++ (List.drop m (List.take ((ls.take ps).drop tp).length (List.drop tp (List.take ps S.L))) ++ (List.replicate m (newL S.cols a) ++ (List.drop ps (List.take ls.length S.L) ++ []))) := by
        have e1 : ((ls.take ps).drop tp).length = ((S.L.take ps).drop tp).length := by simp [hll]
        rw [List.drop_zero, List.append_nil, e1, List.take_length, hll, List.take_length, List.drop_drop]
        simp
      have hc7 : Chg (gridS f) w w7 := (Chg.of_ext (S := gridS f) hB06).trans (S' := fun k => k = f.g) (Chg.of_grown hg7 fun k hk => by cases hk; rfl) fun i _ hi => .inl hi
      rw [if_pos hpos, show ((tp : Int)).toNat = tp from rfl, show ((ps : Int)).toNat = ps from rfl, e] at hK
      refine cond_of (fun ht => ?_) (fun ht => ?_)
      · have ht : (tp : Int) ≠ 0 := by simpa using ht
        rw [if_neg (fun hh => ht hh.2), if_pos (.inr (.inr ht))] at hK
        exact hK ⟨f.g, f.r, q, f.rs⟩ w7 h7 ⟨rfl, rfl, .inr hfresh, .inl rfl⟩ hc7
      · have ht : (tp : Int) = 0 := by simpa using ht
        rw [if_pos ⟨hpos, ht⟩, if_neg (by rintro (hh | hh | hh); exact good hh; omega; exact hh ht)] at hK
        have hB17 : Chg (fun k => k = f.g) w6 w7 := Chg.of_grown hg7 fun k hk => by cases hk; rfl
        obtain ⟨g1, g2, g3⟩ := h1.g_ne
        have hgone6 := hgone.ext (w' := w6) (hB45.trans (hB6.mono hB45.size))
        have hbr : Go.Vc.Own slE w7 base q _ := hrow.chg hB17 fun k hk => (hqne k hk).1
        have notr : ∀ k cs, k = f.g → ¬ Blk w6 k ty_api_Cell cs := fun k cs hk hc => h6.notC k cs (.inl hk) hc
        have hgone7 : Rd slE w7 _ _ := hgone6.chg hB17 fun x hx hs => by
          obtain ⟨y, hy, e1⟩ := cut_block hx
          obtain ⟨z, hz, e2⟩ := cut_block hy
          exact (g2 z.block (by simp [Slc.blk, hz])).1 (by rw [← e2, ← e1]; exact hs)
        have hlg := ((((hl6.take ps).drop tp).take m).drop 0).chg hB17 notr
        refine pushes (f := ⟨f.g, f.r, q, f.rs⟩) (m := m) h7 hgone7 (by simp; omega) hlg (fun x hx hs => ?_) hmost (by have := hB06.size; have := hg7.size; omega) (by omega) fun i f' w8 h8 hf8 hfl8 hc8 => ?_
        · obtain ⟨y, hy, e1⟩ := cut_block hx
          obtain ⟨z, hz, e2⟩ := cut_block hy
          have hzb : f.ls.blk = some z.block := by simp [Slc.blk, hz]
          rw [e1, e2] at hs
          rcases hs with e | e | e | e
          · exact (g2 _ hzb).1 e
          · exact (g2 _ hzb).2 e
          · have := hfresh _ e
            have := (h.below _ (.inr (.inr (.inl hzb)))).2
            omega
          · exact h.ne _ hzb e
        · have hb8 := h8.blk
          have hfg : f'.g = f.g := hf8.g
          rw [hfg] at hb8
          refine ldI_of (x := S.top) (hb8.cells 4 _ rfl) ?_
          rw [add_mk]
          refine stK_blk hb8 (by simp) fun w9 hb9 hg9 hs9 => ?_
          obtain ⟨ls8, ho8, hl8⟩ := h8.row
          obtain ⟨k1, k2, k3⟩ := h8.g_ne
          have hto : f.to ⟨f.g, f.r, q, f.rs⟩ w.heap.size := ⟨rfl, rfl, .inr hfresh, .inl rfl⟩
          have h9 := h8.newRow (B := 0) (w2 := w9) (top := IntKind.i64.wrap (S.top + m)) ho8 hl8 (fun k hk => ⟨(k2 k hk).1, (k2 k hk).2, h8.ne k hk⟩) (by rw [hfg]; exact hb9) (by rw [hfg]; exact hg9) (Nat.zero_le _)
          have hsz7 : w.heap.size ≤ w7.heap.size := by have := hB06.size; have := hg7.size; omega
          refine hK f' w9 ?_ (hto.trans hf8 hsz7) ((hc7.trans hc8 fun i hi hs => ?_).trans (S' := fun k => k = f.g) (Chg.of_grown hg9 fun k hk => by cases hk; rfl) fun i _ hi => .inl hi)
          · have ep : List.take m S.L = List.drop 0 (List.take m (List.drop tp (List.take ps S.L))) := by
              have : tp = 0 := by omega
              subst this
              rw [List.drop_zero, List.drop_zero, List.take_take, Nat.min_eq_left (by omega)]
            rw [ep]
            exact h9
          · rcases hto.old i hs with e | e
            · exact e
            · omega)
  refine cond_of (fun c1 => main _ ?_) (fun c1 => cond_of (fun c2 => main _ ?_) (fun c2 => main _ ?_))
  · have c1 := of_decide_eq_true c1
    rw [wrap64_id (by omega)]
    split at hm <;> split <;> omega
  · have c2 := of_decide_eq_true c2
    rw [wrap64_id (by omega)]
    split at hm <;> split <;> omega
  · have c1 := of_decide_eq_false c1
    have c2 := of_decide_eq_false c2
    rw [wrap64_id (by omega)]
    split at hm <;> split <;> omega

end Go.Proofs.YtmoafafalnbkpaaGreatDoor

namespace Go.Proofs.YtmoafafalnbkpaaGreatDoor
open Go.Vc Go.RowKit
theorem scrollL_length {cols : Nat} {L : List (List Cell)} {rows : Nat} {top past n : Int} {a : Attr} (hL : L.length = rows) (h : ¬ scrollBad rows top past n) : (scrollL cols L top past n a).length = L.length := by
  unfold scrollBad at h
  have hm : (scrollM top past n : Int) = min (if n < 0 then -n else n) (past - top) := by unfold scrollM; split <;> omega
  unfold scrollL
  dsimp only
  generalize scrollM top past n = m at *
  split
  · simp only [List.length_append, List.length_take, List.length_drop, List.length_replicate]
    split at hm <;> omega
  · simp only [List.length_append, List.length_take, List.length_drop, List.length_replicate]
    split at hm <;> omega
theorem scrollG_length {S : GS} {top past n : Int} {a : Attr} (hL : S.L.length = S.rows) : (scrollG S top past n a).L.length = S.rows ∧ (scrollG S top past n a).rows = S.rows ∧ (scrollG S top past n a).cols = S.cols ∧ (scrollG S top past n a).most = S.most := by
  unfold scrollG
  split
  · exact ⟨hL, rfl, rfl, rfl⟩
  · next h =>
    split
    · exact ⟨(scrollL_length hL h).trans hL, rfl, rfl, rfl⟩
    · exact ⟨(scrollL_length hL h).trans hL, rfl, rfl, rfl⟩

section
variable {w w1 w2 : World} {base : Nat} {f : Foot} {S : GS}
/-- The grid gets another line. -/
theorem GridM.setLine {i : Nat} {t : Slc} {xs : List Cell} {ls : List Slc} (h : GridM w1 base f S) (hl : Lines w1 base ls S.L) (ht : Go.Vc.Own cellE w1 base t xs) (ho : Go.Vc.Own slE w2 base f.ls (ls.set i t)) (hg : w1.grownBy w2 f.ls.blk) :
    GridM w2 base f { S with L := S.L.set i xs } ∧ Chg (fun k => f.ls.blk = some k) w1 w2 := by
  have hc5 : Chg (fun k => f.ls.blk = some k) w1 w2 := Chg.of_grown hg fun k hk => hk
  have notC : ∀ k cs, f.ls.blk = some k → ¬ Blk w1 k ty_api_Cell cs := fun k cs hk => h.notC k cs (.inr (.inr (.inl hk)))
  obtain ⟨g1, g2, g3⟩ := h.g_ne
  refine ⟨⟨h.blk.chg hc5 fun e => (g2 _ e).1 rfl, h.hg, ⟨ls.set i t, ho, (hl.chg hc5 notC).set i (ht.chg hc5 fun g hg hs => ?_)⟩, h.ring.chg hc5 (fun k hk hs => ?_) notC, h.ne⟩, hc5⟩
  · obtain ⟨cs, hcs⟩ := ht.blk_t hg
    exact notC g cs hs hcs
  · rcases hk with rfl | hk
    · exact (g2 _ hs).2 rfl
    · exact h.ne k hs hk

theorem Chg.gg {k : Nat} (h : w1.grownBy w2 (some k)) : Chg (fun i => i = k) w1 w2 := Chg.of_grown h fun i hi => by cases hi; rfl

end
end Go.Proofs.YtmoafafalnbkpaaGreatDoor

namespace Go.Proofs.YtmoafafalnbkpaaGreatDoor
open Go.Vc Go.RowKit
def strE : El ByteArray where
  cells s := [.string s]
  t := ty_string
  k := 1
  pos := by decide
  len _ := rfl
  one x v hv := by
    simp only [List.mem_cons, List.mem_nil_iff, or_false] at hv
    rcases hv with rfl
    rfl
noncomputable def slT71 : SlT PG strE ty_sl_string where
  ht := by kernel_rfl
  i := (PG.info? ty_string).getD default
  hi := by kernel_rfl
  z := .string ⟨#[]⟩
  hz := by kernel_rfl
  hs := by kernel_rfl
  hzs := rfl
theorem by71 : slT71.i.bytes = 16 := by kernel_rfl

section
variable {w : World} {base : Nat} {f : Foot} {S : GS}
theorem gText_spec {K : Slc → World → Prop} (h : GridM w base f S) (hL : S.L.length = S.rows) (hrows : S.rows ≤ 1000) (hw : ∀ xs ∈ S.L, xs.length ≤ 10000)
    (hK : ∀ r w', Go.Vc.Own strE w' w.heap.size r (S.L.map textS) → Below w.heap.size w w' → K r w') : c_grid_Grid_Text (some ⟨f.g, 0, none⟩) w K := by
  refine call_grid_Grid_Text _ ?_
  unfold sh_grid_Grid_Text
  simp only [onPtr_some]
  refine ldSl_of (x := f.ls) (h.blk.cells 3 _ rfl) ?_
  obtain ⟨ls, ho, hl⟩ := h.row
  have hll := hl.1
  have hln : f.ls.n = S.rows := by rw [ho.rd.n, hll, hL]
  refine loopP_rule (fun (s : Slc × Int × Unit) w2 => ∃ k : Nat, s.2.1 = k ∧ k ≤ S.rows ∧ Go.Vc.Own strE w2 w.heap.size s.1 ((S.L.take k).map textS) ∧ Below w.heap.size w w2) (fun s => S.rows - s.2.1.toNat) ⟨0, rfl, by omega, by simpa using Go.Vc.Own.nil strE w w.heap.size, Below.refl _ _⟩ ?_
  rintro ⟨s, i, _⟩ w2 ⟨k, rfl, hk, hs, hB⟩ I hI
  dsimp only at *
  rw [hln]
  refine cond_of (fun hlt => ?_) (fun hge => ?_)
  · have hlt := of_decide_eq_true hlt
    have ho2 := ho.ext hB
    have hl2 := hl.ext hB
    refine ho2.rd.ix rfl (by omega) (by omega) fun hc => ?_
    have hlk : ls[k]? = some (ls[k]'(by omega)) := List.getElem?_eq_getElem _
    have hxk : S.L[k]? = some (S.L[k]'(by omega)) := List.getElem?_eq_getElem _
    refine ldSl_of (x := ls[k]'(by omega)) (by simpa using hc 0 _ rfl) ?_
    refine Text_spec (hl2.2 _ _ _ hlk hxk).rd (hw _ (List.getElem_mem _)) fun w3 hB3 => ?_
    refine nw_blk fun w4 hb4 hB4 hs4 => ?_
    have hr4 : Rd strE w4 ⟨some ⟨w3.heap.size, 0, none⟩, 1, 1⟩ [textS (S.L[k]'(by omega))] := rd_one (E := strE) hb4 rfl
    have hB24 : Below w2.heap.size w2 w4 := hB3.trans (hB4.mono hB3.size)
    have hB04 : Below w.heap.size w w4 := hB.trans (hB24.mono hB.size)
    refine apK_own slT71 (hs.ext hB24) hr4 hB04.size (by rw [by71]; simp; omega) (by simp [maxLen]; omega) fun q w5 ho5 hg5 hq5 => ?_
    rw [wrap64_id (by omega)]
    refine hI _ _ ⟨k + 1, by simp, by omega, ?_, hB04.grown hg5 hB04.size fun g hg => (hs.lt g hg).1⟩ (by simp; omega)
    rw [List.take_add_one, hxk, List.map_append]
    exact ho5
  · have hge := of_decide_eq_false hge
    have : k = S.L.length := by omega
    subst this
    rw [List.take_length] at hs
    exact hK _ _ hs hB

theorem callR_plain {C : Cx} {g : Nat} {first cap : Array Value} {args : List Value} {ks : List Kind} {w : World} {K : Go.Vc.Cur ks} (hp : C.plain g = true) (h : callP C.P g (first.toList ++ args ++ cap.toList) ks w K) :
    callR C (.func (.func g) first cap) args ks w K := by
  unfold callR callVal
  simp only [hp]
  exact h
theorem plain87 : C.plain fn_grid_Grid_Fill_1 = true := by kernel_rfl
theorem fill1_spec {l : Slc} {xs : List Cell} {b0 b1 b2 : Nat} {from_ to : Int} {a : Attr} {K : Slc → World → Prop} (hl : Rd cellE w l xs) (hxl : xs.length ≤ 10000) (h0 : Blk w b0 ty_int [.int .i64 from_]) (h1 : Blk w b1 ty_int [.int .i64 to]) (h2 : Blk w b2 ty_api_Attr (T_api_Attr.rep.cells a))
    (hK : ∀ s w', Go.Vc.Own cellE w' w.heap.size s (eraP xs from_ to a) → Below w.heap.size w w' → K s w') :
    callR C (.func (.func fn_grid_Grid_Fill_1) #[] #[.pointer (some ⟨b0, 0, none⟩), .pointer (some ⟨b1, 0, none⟩), .pointer (some ⟨b2, 0, none⟩)]) [.slice l.a l.n l.c] [Kind.slice] w K := by
  have h : c_grid_Grid_Fill_1 l ⟨b0, 0, none⟩ ⟨b1, 0, none⟩ ⟨b2, 0, none⟩ w K := by
    refine call_grid_Grid_Fill_1 _ _ _ _ ?_
    unfold sh_grid_Grid_Fill_1
    refine ldI_of (x := from_) (by simpa using h0.cells 0 _ rfl) ?_
    refine ldI_of (x := to) (by simpa using h1.cells 0 _ rfl) ?_
    refine ldS_of (x := a) h2.cells ?_
    exact Erase_spec hl hxl hK
  refine callR_plain plain87 (Calls.mono h ?_)
  rintro e w' ⟨r, rfl, hk⟩
  exact ⟨r, rfl, hk⟩

theorem gFill_spec {row from_ to : Int} {a : Attr} {K : Bool → World → Prop} (h : GridM w base f S) (hL : S.L.length = S.rows) (hw : ∀ xs ∈ S.L, xs.length ≤ 10000) (hbase : base ≤ w.heap.size)
    (hK1 : ∀ w', (0 ≤ row ∧ row < S.rows) → GridM w' base f { S with L := S.L.set row.toNat (resL (eraP (S.L.getD row.toNat []) from_ to a) S.cols) } → Chg (gridS f) w w' → K true w')
    (hK2 : ∀ w', ¬ (0 ≤ row ∧ row < S.rows) → Below w.heap.size w w' → K false w') : c_grid_Grid_Fill (some ⟨f.g, 0, none⟩) row from_ to a w K := by
  refine call_grid_Grid_Fill _ _ _ _ _ ?_
  unfold sh_grid_Grid_Fill
  refine nw_blk fun w1 hb1 hB1 hs1 => ?_
  refine nw_blk fun w2 hb2 hB2 hs2 => ?_
  refine nw_blk fun w3 hb3 hB3 hs3 => ?_
  have hB03 : Below w.heap.size w w3 := hB1.trans ((hB2.trans (hB3.mono hB2.size)).mono hB1.size)
  have h3 := h.ext hB03
  have hb1' := (hb1.ext hB2).ext hB3
  have hb2' := hb2.ext hB3
  refine call_grid_Grid_Change _ _ _ ?_
  unfold sh_grid_Grid_Change
  simp only [onPtr_some]
  refine joinP_of fun J hJ => ?_
  refine gis_spec h3 ?_
  by_cases hr : 0 ≤ row ∧ row < (S.rows : Int)
  · rw [decide_eq_true hr]
    refine cond_t rfl ?_
    refine ldSl_of (x := f.ls) (h3.drew.blk.cells 3 _ rfl) ?_
    refine ldSl_of (x := f.ls) (h3.drew.blk.cells 3 _ rfl) ?_
    obtain ⟨ls, ho, hl⟩ := h3.row
    have hll := hl.1
    refine ho.drew.rd.ix rfl hr.1 (by omega) fun hc => ?_
    have hlk : ls[row.toNat]? = some (ls[row.toNat]'(by omega)) := List.getElem?_eq_getElem _
    have hxk : S.L[row.toNat]? = some (S.L[row.toNat]'(by omega)) := List.getElem?_eq_getElem _
    refine ldSl_of (x := ls[row.toNat]'(by omega)) (by simpa using hc 0 _ rfl) ?_
    refine ldI_of (x := (S.cols : Int)) (h3.drew.blk.cells 2 _ rfl) ?_
    have hwk := hw _ (List.mem_of_getElem? hxk)
    refine fill1_spec (hl.2 _ _ _ hlk hxk).drew.rd hwk hb1'.drew hb2'.drew hb3.drew fun t w4 ht hB4 => ?_
    have hB34 : Below w3.heap.size w3 w4 := (Below.refl _ w3).drew.trans hB4
    have h4 := h3.ext hB34
    refine ⟨h4.blk.cells 2 _ rfl, h4.blk.cells 3 _ rfl, ?_⟩
    refine Resize_spec ht.rd (by rw [eraP_length]; exact hwk) fun u w5 hu hB5 => ?_
    have hB35 : Below w3.heap.size w3 w5 := hB34.trans (hB5.mono hB34.size)
    have h5 := h3.ext hB35
    refine ⟨h5.blk.cells 3 _ rfl, ?_⟩
    have ho5 := ho.ext hB35
    have hs0 := hB03.size
    have hs4 := hB34.size
    refine ho5.rd.ix rfl hr.1 (by omega) fun _ => ?_
    refine ho5.st0 (x := ls[row.toNat]'(by omega)) hlk (y := u) rfl fun w6 ho6 hg6 hs6 => ?_
    obtain ⟨h6, hc6⟩ := h5.setLine (i := row.toNat) (hl.ext hB35) (hu.base (by omega)) ho6 hg6
    refine hJ _ _ (gis_spec h6 ?_)
    rw [decide_eq_true hr]
    refine hK1 w6 hr ?_ ((Chg.of_ext (S := gridS f) (hB03.trans (hB35.mono hs0))).trans hc6 fun i _ hi => .inr (.inr (.inl hi)))
    rw [List.getD_eq_getElem?_getD, hxk]
    exact h6
  · rw [decide_eq_false hr]
    refine cond_f rfl (hJ _ _ (gis_spec h3 ?_))
    rw [decide_eq_false hr]
    exact hK2 w3 hr hB03
end
end Go.Proofs.YtmoafafalnbkpaaGreatDoor
