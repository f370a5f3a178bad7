/- Program-generic: slices that read as lists, rows of a call's own, and the rules of the texts' words over them. No program in sight. -/
import Derived.Test.YtpadlibcalomnaaDoorVc
import Derived.Below
import Derived.Maps.AppendAt
import Derived.Laws.OwnMore
import Derived.IntWalk
namespace Go.Vc
open Go.RowKit

/-! ### Loops and joins -/
theorem loopP_rule {σ : Type} {body : (σ → World → Prop) → σ → World → Prop} {s0 : σ} {w0 : World} (Inv : σ → World → Prop) (μ : σ → Nat) (h0 : Inv s0 w0)
    (step : ∀ s w, Inv s w → ∀ I : σ → World → Prop, (∀ s' w', Inv s' w' → μ s' < μ s → I s' w') → body I s w) : loopP body s0 w0 := by
  intro I hI
  have key : ∀ n s w, μ s = n → Inv s w → I s w := by
    intro n
    induction n using Nat.strongRecOn with
    | _ n ih =>
      intro s w hn hs
      exact hI s w (step s w hs I fun s' w' h' hlt => ih (μ s') (hn ▸ hlt) s' w' rfl h')
  exact key _ _ _ rfl h0

/-- A loop whose measure hangs on the world too. -/
theorem loopP_rule_w {σ : Type} {body : (σ → World → Prop) → σ → World → Prop} {s0 : σ} {w0 : World} (Inv : Nat → σ → World → Prop) (n0 : Nat) (h0 : Inv n0 s0 w0)
    (step : ∀ n s w, Inv n s w → ∀ I : σ → World → Prop, (∀ n' s' w', Inv n' s' w' → n' < n → I s' w') → body I s w) : loopP body s0 w0 := by
  intro I hI
  have key : ∀ n s w, Inv n s w → I s w := by
    intro n
    induction n using Nat.strongRecOn with
    | _ n ih => intro s w hs; exact hI s w (step n s w hs I fun n' s' w' h' hlt => ih n' hlt s' w' h')
  exact key _ _ _ h0

theorem joinP_of {σ : Type} {K : σ → World → Prop} {body : (σ → World → Prop) → Prop} (h : ∀ J : σ → World → Prop, (∀ s w, K s w → J s w) → body J) : joinP K body := h

theorem cond_of {b : Bool} {X Y : Prop} (h1 : b = true → X) (h2 : b = false → Y) : cond b X Y := by
  cases b
  · exact h2 rfl
  · exact h1 rfl
theorem cond_t {b : Bool} {X Y : Prop} (h : b = true) (h1 : X) : cond b X Y := by subst h; exact h1
theorem cond_f {b : Bool} {X Y : Prop} (h : b = false) (h1 : Y) : cond b X Y := by subst h; exact h1

/-! ### Addresses -/
theorem add_add (a : Addr) (i j : Nat) : (a.add i).add j = a.add (i + j) := by
  unfold Addr.add
  by_cases hi : i = 0 <;> by_cases hj : j = 0 <;> simp [hi, hj, Nat.add_assoc]
@[simp] theorem add_zero (a : Addr) : a.add 0 = a := by simp [Addr.add]
@[simp] theorem block_add (a : Addr) (n : Nat) : (a.add n).block = a.block := by unfold Addr.add; split <;> rfl
theorem add_mk (b o n : Nat) : (⟨b, o, none⟩ : Addr).add n = ⟨b, o + n, none⟩ := by unfold Addr.add; split <;> simp_all

/-! ### Cells -/
theorem cellsAt.get {w : World} {a : Addr} {vs : List Value} (h : cellsAt w a vs) (i : Nat) {v : Value} (hv : vs[i]? = some v) : w.cell? (a.add i) = some v := h i v hv
theorem cellsAt.sub {w : World} {a : Addr} {vs us : List Value} (h : cellsAt w a vs) (i : Nat) (hu : ∀ (j : Nat) (v : Value), us[j]? = some v → vs[i + j]? = some v) : cellsAt w (a.add i) us := by
  intro j v hj
  rw [add_add]
  exact h _ _ (hu j v hj)
theorem cellsAt.lt {w : World} {a : Addr} {vs : List Value} (h : cellsAt w a vs) (hn : 0 < vs.length) : a.block < w.heap.size := by
  have := World.block_lt_of_cell? w (a.add 0) (h 0 vs[0] (by simp [hn]))
  simpa using this
theorem cellsAt.below {w w' : World} {a : Addr} {vs : List Value} {B : Nat} (h : cellsAt w a vs) (hb : Below B w w') (hlt : a.block < B) : cellsAt w' a vs := by
  intro i v hv
  rw [hb.cell (by simpa using hlt)]
  exact h i v hv
theorem cellsAt.ext {w w' : World} {a : Addr} {vs : List Value} (h : cellsAt w a vs) (hb : Below w.heap.size w w') : cellsAt w' a vs := by
  intro i v hv
  have hc := h i v hv
  rw [hb.cell (by simpa using World.block_lt_of_cell? w _ hc)]
  exact hc
theorem cellsAt.drew {w : World} {a : Addr} {vs : List Value} (h : cellsAt w a vs) : cellsAt w.drew a vs := h
theorem cellsAt_new (w : World) (t : TypeId) (vs : List Value) : cellsAt (w.alloc (.cells vs.toArray t)) ⟨w.heap.size, 0, none⟩ vs := by
  intro i v hv
  rw [add_mk, Nat.zero_add, World.cell?_alloc_new]
  simpa using hv

/-- A block that is just these cells, none frozen. -/
def Blk (w : World) (g : Nat) (t : TypeId) (vs : List Value) : Prop := w.heap[g]? = some (.cells vs.toArray t (0, 0))
section
variable {w w' : World} {g : Nat} {t : TypeId} {vs : List Value}
theorem Blk.lt (h : Blk w g t vs) : g < w.heap.size := by
  rcases Nat.lt_or_ge g w.heap.size with hlt | hge
  · exact hlt
  · unfold Blk at h; rw [Array.getElem?_eq_none hge] at h; cases h
theorem Blk.new (w : World) (t : TypeId) (vs : List Value) : Blk (w.alloc (.cells vs.toArray t)) w.heap.size t vs := by
  show (w.heap.push _)[w.heap.size]? = _
  simp
theorem Blk.cells (h : Blk w g t vs) : cellsAt w ⟨g, 0, none⟩ vs := by
  intro i v hv
  unfold Blk at h
  rw [add_mk]
  simp [World.cell?, h, hv]
theorem Blk.cell (h : Blk w g t vs) (i : Nat) {v : Value} (hv : vs[i]? = some v) : w.cell? ⟨g, i, none⟩ = some v := by
  have := h.cells i v hv
  rwa [add_mk, Nat.zero_add] at this
theorem Blk.sub (h : Blk w g t vs) (i : Nat) (us : List Value) (hu : (vs.drop i).take us.length = us) : cellsAt w ((⟨g, 0, none⟩ : Addr).add i) us := by
  refine h.cells.sub i fun j v hj => ?_
  rw [← hu] at hj
  have hjl : j < us.length := by
    rcases Nat.lt_or_ge j us.length with h' | h'
    · exact h'
    · rw [List.getElem?_eq_none (by simp; omega)] at hj; cases hj
  rw [List.getElem?_take_of_lt hjl, List.getElem?_drop] at hj
  exact hj
theorem Blk.frozen (h : Blk w g t vs) (i : Nat) : w.frozen? ⟨g, i, none⟩ = false := by
  unfold Blk at h
  simp [World.frozen?, h]
theorem Blk.drew (h : Blk w g t vs) : Blk w.drew g t vs := h
theorem Blk.alloc (h : Blk w g t vs) (o : Obj) : Blk (w.alloc o) g t vs := (Below.heap_alloc w o g h.lt).trans h
theorem Blk.below {B : Nat} (h : Blk w g t vs) (hb : Below B w w') (hg : g < B) : Blk w' g t vs := (hb.block g hg).trans h
theorem Blk.ext (h : Blk w g t vs) (hb : Below w.heap.size w w') : Blk w' g t vs := h.below hb h.lt
theorem Blk.grown {row : Option Nat} (h : Blk w g t vs) (hb : w.grownBy w' row) (hg : some g ≠ row) : Blk w' g t vs := (hb.block g h.lt hg).trans h
theorem Blk.far (h : Blk w g t vs) {p : Addr} (hp : g ≠ p.block) (u : Value) : Blk (w.setCell p u) g t vs := (Below.heap_setCell w p u g hp).trans h
theorem Blk.set_ (h : Blk w g t vs) (i : Nat) (u : Value) : Blk (w.setCell ⟨g, i, none⟩ u) g t (vs.set i u) := by
  unfold Blk at h ⊢
  simp [World.setCell, Array.getElem?_modify, h]
end

/-! ### Writing -/
def putL (vs : List Value) (i : Nat) (us : List Value) : List Value := match us with
  | [] => vs
  | u :: r => putL (vs.set i u) (i + 1) r

theorem wrFrom_blk {g o : Nat} {t : TypeId} : ∀ (us : List Value) (i : Nat) (w : World) (vs : List Value), Blk w g t vs → Blk (wrFrom w ⟨g, o, none⟩ i us) g t (putL vs (o + i) us) := by
  intro us
  induction us with
  | nil => intro i w vs h; exact h
  | cons u r ih =>
    intro i w vs h
    simp only [wrFrom, putL]
    rw [add_mk]
    have := ih (i + 1) _ _ (h.set_ (o + i) u)
    rwa [← Nat.add_assoc] at this
theorem wr_blk {w : World} {g o : Nat} {t : TypeId} {vs us : List Value} (h : Blk w g t vs) : Blk (wr w ⟨g, o, none⟩ us) g t (putL vs o us) := by
  have := wrFrom_blk (o := o) us 0 w vs h
  simpa [wr] using this

theorem wrFrom_heap {a : Addr} : ∀ (us : List Value) (i : Nat) (w : World), (wrFrom w a i us).heap.size = w.heap.size ∧ (∀ k, k ≠ a.block → (wrFrom w a i us).heap[k]? = w.heap[k]?) ∧ (wrFrom w a i us).tape = w.tape ∧ (wrFrom w a i us).os = w.os ∧ (wrFrom w a i us).output = w.output ∧ (wrFrom w a i us).drawn = w.drawn := by
  intro us
  induction us with
  | nil => intro i w; exact ⟨rfl, fun _ _ => rfl, rfl, rfl, rfl, rfl⟩
  | cons u r ih =>
    intro i w
    obtain ⟨h1, h2, h3, h4, h5, h6⟩ := ih (i + 1) (w.setCell (a.add i) u)
    refine ⟨by rw [wrFrom, h1]; simp, fun k hk => ?_, by rw [wrFrom, h3]; simp, by rw [wrFrom, h4]; rfl, by rw [wrFrom, h5]; rfl, by rw [wrFrom, h6]; simp⟩
    rw [wrFrom, h2 k hk]
    exact Below.heap_setCell _ _ _ _ (by simpa using hk)
@[simp] theorem size_wr (w : World) (a : Addr) (us : List Value) : (wr w a us).heap.size = w.heap.size := (wrFrom_heap us 0 w).1
theorem heap_wr (w : World) (a : Addr) (us : List Value) (k : Nat) (hk : k ≠ a.block) : (wr w a us).heap[k]? = w.heap[k]? := (wrFrom_heap us 0 w).2.1 k hk
theorem wr_grown (w : World) (a : Addr) (us : List Value) : w.grownBy (wr w a us) (some a.block) := by
  obtain ⟨h1, h2, h3, h4, h5, _⟩ := wrFrom_heap (a := a) us 0 w
  exact ⟨h4, h3, h5, by show _ ≤ (wrFrom w a 0 us).heap.size; omega, fun k _ hne => h2 k fun e => hne (by rw [e])⟩
theorem Below.wr {B : Nat} {w0 w : World} (h : Below B w0 w) {a : Addr} (ha : B ≤ a.block) (us : List Value) : Below B w0 (wr w a us) := by
  obtain ⟨h1, h2, h3, h4, h5, _⟩ := wrFrom_heap (a := a) us 0 w
  exact h.trans ⟨h4, h3, h5, by show _ ≤ (wrFrom w a 0 us).heap.size; omega, fun k hk => h2 k (by omega)⟩
theorem Blk.wrFar {w : World} {g : Nat} {t : TypeId} {vs : List Value} (h : Blk w g t vs) {a : Addr} (ha : g ≠ a.block) (us : List Value) : Blk (Vc.wr w a us) g t vs := (heap_wr w a us g ha).trans h

theorem stOk_blk {w : World} {g o : Nat} {t : TypeId} {vs us : List Value} (h : Blk w g t vs) (hl : o + us.length ≤ vs.length) : stOk w ⟨g, o, none⟩ us := by
  intro i hi
  rw [add_mk]
  refine ⟨⟨vs[o + i], ?_⟩, h.frozen _⟩
  exact h.cell (o + i) (List.getElem?_eq_getElem (by omega))

/-- A store into a block that is known whole. -/
theorem stK_blk {w : World} {g o : Nat} {t : TypeId} {vs us : List Value} {K : World → Prop} (h : Blk w g t vs) (hl : o + us.length ≤ vs.length)
    (hK : ∀ w', Blk w' g t (putL vs o us) → w.grownBy w' (some g) → w'.heap.size = w.heap.size → K w') : stK ⟨g, o, none⟩ us w K :=
  ⟨stOk_blk h hl, hK _ (wr_blk h) (wr_grown w ⟨g, o, none⟩ us) (size_wr _ _ _)⟩

/-- A new block. -/
theorem nw_blk {t : TypeId} {vs : List Value} {w : World} {K : Addr → World → Prop} (hK : ∀ w', Blk w' w.heap.size t vs → Below w.heap.size w w' → w'.heap.size = w.heap.size + 1 → K ⟨w.heap.size, 0, none⟩ w') : nw t vs w K :=
  hK _ (Blk.new w t vs) ((Below.refl _ w).alloc (Nat.le_refl _) _) (by simp)

/-! ### Elements; slices that read as lists -/
structure El (T : Type) where
  cells : T → List Value
  t : TypeId
  k : Nat
  pos : 0 < k
  len : ∀ x, (cells x).length = k
  one : ∀ x, ∀ v ∈ cells x, v.oneCell' = true

def Slc.at_ (s : Slc) (k i : Nat) : Addr := (s.a.getD ⟨0, 0, none⟩).add (i * k)

/-- The slice reads as this list. -/
structure Rd {T : Type} (E : El T) (w : World) (s : Slc) (xs : List T) : Prop where
  n : s.n = xs.length
  nc : s.n ≤ s.c
  cm : s.c ≤ maxLen
  some_ : 0 < xs.length → s.a.isSome = true
  at_ : ∀ (i : Nat) x, xs[i]? = some x → cellsAt w (s.at_ E.k i) (E.cells x)

theorem Rd.nil {T : Type} (E : El T) (w : World) : Rd E w ⟨none, 0, 0⟩ [] := ⟨rfl, Nat.le_refl _, by simp [maxLen], fun h => by simp at h, fun i x h => by simp at h⟩
theorem Rd.lt {T : Type} {E : El T} {w : World} {s : Slc} {xs : List T} (h : Rd E w s xs) {i : Nat} (hi : i < xs.length) : (s.at_ E.k i).block < w.heap.size :=
  (h.at_ i xs[i] (by simp [hi])).lt (by rw [E.len]; exact E.pos)
theorem Rd.keep {T : Type} {E : El T} {w w' : World} {s : Slc} {xs : List T} (h : Rd E w s xs) (hk : ∀ (b : Nat), b < w.heap.size → (∀ a, s.a = some a → b = a.block) → w'.heap[b]? = w.heap[b]?) : Rd E w' s xs := by
  refine ⟨h.n, h.nc, h.cm, h.some_, fun i x hx => ?_⟩
  have hc := h.at_ i x hx
  intro j v hv
  have hcell := hc j v hv
  have hlt := World.block_lt_of_cell? w _ hcell
  rw [World.cell?_of_block (w := w) (hk _ hlt (fun a ha => by simp [Slc.at_, ha]))]
  exact hcell
theorem Rd.ext {T : Type} {E : El T} {w w' : World} {s : Slc} {xs : List T} (h : Rd E w s xs) (hb : Below w.heap.size w w') : Rd E w' s xs := h.keep fun b hlt _ => hb.block b hlt
theorem Rd.grown {T : Type} {E : El T} {w w' : World} {s : Slc} {xs : List T} {row : Option Nat} (h : Rd E w s xs) (hb : w.grownBy w' row) (hne : ∀ a, s.a = some a → some a.block ≠ row) (hs : s.a = none → xs = []) : Rd E w' s xs := by
  cases ha : s.a with
  | none => exact ⟨h.n, h.nc, h.cm, h.some_, fun i x hx => by rw [hs ha] at hx; simp at hx⟩
  | some a => exact h.keep fun b hlt hb' => hb.block b hlt (by rw [hb' a ha]; exact hne a ha)
theorem Rd.none_nil {T : Type} {E : El T} {w : World} {s : Slc} {xs : List T} (h : Rd E w s xs) (ha : s.a = none) : xs = [] := by
  cases xs with
  | nil => rfl
  | cons x r => have := h.some_ (by simp); rw [ha] at this; cases this
theorem Rd.drew {T : Type} {E : El T} {w : World} {s : Slc} {xs : List T} (h : Rd E w s xs) : Rd E w.drew s xs := h.keep fun _ _ _ => rfl

theorem ixK_at {s : Slc} {i : Int} {k : Nat} {K : Addr → Prop} (ha : s.a.isSome = true) (h0 : 0 ≤ i) (h1 : i < s.n) (h : K (s.at_ k i.toNat)) : ixK s i k K := by
  obtain ⟨a, e⟩ := Option.isSome_iff_exists.1 ha
  unfold ixK
  rw [e, onPtr_some]
  refine ⟨⟨h0, h1⟩, ?_⟩
  simpa [Slc.at_, e] using h

theorem Rd.ix {T : Type} {E : El T} {w : World} {s : Slc} {xs : List T} (h : Rd E w s xs) {i : Int} {k : Nat} (hk : k = E.k) {K : Addr → Prop} (h0 : 0 ≤ i) (h1 : i < xs.length)
    (hK : cellsAt w (s.at_ E.k i.toNat) (E.cells (xs[i.toNat]'(by omega))) → K (s.at_ E.k i.toNat)) : ixK s i k K := by
  subst hk
  refine ixK_at (h.some_ (by omega)) h0 (by rw [h.n]; exact h1) (hK (h.at_ _ _ ?_))
  simp

/-! ### Rows of a call's own -/
def flat {T : Type} (E : El T) (xs : List T) : List Value := xs.flatMap E.cells

theorem flat_length {T : Type} (E : El T) (xs : List T) : (flat E xs).length = xs.length * E.k := by
  unfold flat
  induction xs with
  | nil => simp
  | cons x r ih => simp [E.len, ih, Nat.add_mul, Nat.add_comm]
theorem flat_append {T : Type} (E : El T) (xs ys : List T) : flat E (xs ++ ys) = flat E xs ++ flat E ys := by simp [flat]
theorem flat_get {T : Type} (E : El T) : ∀ (xs : List T) (i : Nat) (x : T) (j : Nat) (v : Value), xs[i]? = some x → (E.cells x)[j]? = some v → (flat E xs)[i * E.k + j]? = some v := by
  intro xs
  induction xs with
  | nil => intro i x j v h; simp at h
  | cons y r ih =>
    intro i x j v h hv
    have hj : j < E.k := by rw [← E.len x]; exact (List.getElem?_eq_some_iff.1 hv).1
    have e : flat E (y :: r) = E.cells y ++ flat E r := by simp [flat]
    rw [e]
    cases i with
    | zero =>
      simp only [List.getElem?_cons_zero, Option.some.injEq] at h
      subst h
      rw [Nat.zero_mul, Nat.zero_add, List.getElem?_append_left (by rw [E.len]; exact hj)]
      exact hv
    | succ i =>
      simp only [List.getElem?_cons_succ] at h
      rw [List.getElem?_append_right (by rw [E.len, Nat.add_mul]; omega), E.len]
      have : (i + 1) * E.k + j - E.k = i * E.k + j := by rw [Nat.add_mul]; omega
      rw [this]
      exact ih i x j v h hv
theorem flat_one {T : Type} (E : El T) (xs : List T) : ∀ u ∈ flat E xs, u.oneCell' = true := by
  intro u hu
  obtain ⟨x, _, hx⟩ := List.mem_flatMap.1 hu
  exact E.one x u hx

def Slc.v (s : Slc) : Value := .slice s.a s.n s.c
def Slc.blk (s : Slc) : Option Nat := s.a.map (·.block)

/-- The slice is nil, or stands at the head of a row, from block 'base' on, that may be written; it reads as this list. -/
def Own {T : Type} (E : El T) (w : World) (base : Nat) (s : Slc) (xs : List T) : Prop := w.ownsRow base E.t E.k s.v xs.length (flat E xs)

theorem ownBlock_v (s : Slc) : s.v.ownBlock = s.blk := by
  unfold Slc.v Slc.blk
  cases s.a <;> rfl

theorem Own.form {T : Type} {E : El T} {w : World} {base : Nat} {s : Slc} {xs : List T} (h : Own E w base s xs) :
    (s = ⟨none, 0, 0⟩ ∧ xs = []) ∨ ∃ g cur, s = ⟨some ⟨g, 0, none⟩, xs.length, s.c⟩ ∧ base ≤ g ∧ Blk w g E.t cur ∧ xs.length ≤ s.c ∧ s.c ≤ maxLen ∧ cur.length = s.c * E.k ∧ cur.take (xs.length * E.k) = flat E xs := by
  obtain ⟨_, h⟩ := h
  obtain ⟨a, n, c⟩ := s
  rcases h with ⟨e, hn⟩ | ⟨g, cap, cur, e, hg, hh, h1, h2, h3, h4⟩
  · injection e with e1 e2 e3
    subst e1; subst e2; subst e3
    exact .inl ⟨rfl, List.eq_nil_of_length_eq_zero hn⟩
  · injection e with e1 e2 e3
    subst e1; subst e2; subst e3
    exact .inr ⟨g, cur.toList, rfl, hg, by unfold Blk; simpa using hh, h1, h2, by simpa using h3, h4⟩

theorem Own.of_blk {T : Type} {E : El T} {w : World} {base g c : Nat} {xs : List T} {cur : List Value} (hg : base ≤ g) (hb : Blk w g E.t cur) (h1 : xs.length ≤ c) (h2 : c ≤ maxLen) (h3 : cur.length = c * E.k) (h4 : cur.take (xs.length * E.k) = flat E xs) :
    Own E w base ⟨some ⟨g, 0, none⟩, xs.length, c⟩ xs :=
  ⟨flat_length E xs, .inr ⟨g, c, cur.toArray, rfl, hg, hb, h1, h2, by simpa using h3, by simpa using h4⟩⟩

theorem Own.nil {T : Type} (E : El T) (w : World) (base : Nat) : Own E w base ⟨none, 0, 0⟩ [] := World.ownsRow_nil w base E.t E.k

theorem Own.rd {T : Type} {E : El T} {w : World} {base : Nat} {s : Slc} {xs : List T} (h : Own E w base s xs) : Rd E w s xs := by
  rcases h.form with ⟨rfl, rfl⟩ | ⟨g, cur, hs, hg, hb, h1, h2, h3, h4⟩
  · exact Rd.nil E w
  · rw [hs]
    refine ⟨rfl, h1, h2, fun _ => rfl, fun i x hx => ?_⟩
    show cellsAt w ((⟨g, 0, none⟩ : Addr).add (i * E.k)) _
    refine hb.cells.sub _ fun j v hv => ?_
    have := flat_get E xs i x j v hx hv
    rw [← h4] at this
    rw [List.getElem?_take] at this
    split at this
    · exact this
    · cases this

theorem Own.base {T : Type} {E : El T} {w : World} {base base' : Nat} {s : Slc} {xs : List T} (h : Own E w base s xs) (hb : base' ≤ base) : Own E w base' s xs := by
  obtain ⟨h0, h⟩ := h
  refine ⟨h0, ?_⟩
  rcases h with h | ⟨g, cap, cur, e, hg, r⟩
  · exact .inl h
  · exact .inr ⟨g, cap, cur, e, by omega, r⟩
theorem Own.lt {T : Type} {E : El T} {w : World} {base : Nat} {s : Slc} {xs : List T} (h : Own E w base s xs) : ∀ k, s.blk = some k → base ≤ k ∧ k < w.heap.size := by
  rw [← ownBlock_v]; exact World.ownsRow.lt h
theorem Own.kept {T : Type} {E : El T} {w w' : World} {base : Nat} {s : Slc} {xs : List T} {row : Option Nat} (h : Own E w base s xs) (hg : w.grownBy w' row) (hne : s.blk = none ∨ s.blk ≠ row) : Own E w' base s xs :=
  World.ownsRow.kept h hg (by rw [ownBlock_v]; exact hne)
theorem Own.ext {T : Type} {E : El T} {w w' : World} {base : Nat} {s : Slc} {xs : List T} (h : Own E w base s xs) (hb : Below w.heap.size w w') : Own E w' base s xs := by
  obtain ⟨h0, h1⟩ := h
  refine ⟨h0, ?_⟩
  rcases h1 with h1 | ⟨g, cap, cur, e, hg, hh, r⟩
  · exact .inl h1
  · refine .inr ⟨g, cap, cur, e, hg, ?_, r⟩
    have : g < w.heap.size := by
      rcases Nat.lt_or_ge g w.heap.size with h' | h'
      · exact h'
      · rw [Array.getElem?_eq_none h'] at hh; cases hh
    rw [hb.block g this]; exact hh
theorem Own.alloc {T : Type} {E : El T} {w : World} {base : Nat} {s : Slc} {xs : List T} (h : Own E w base s xs) (o : Obj) : Own E (w.alloc o) base s xs := h.ext ((Below.refl _ w).alloc (Nat.le_refl _) o)
theorem Own.drew {T : Type} {E : El T} {w : World} {base : Nat} {s : Slc} {xs : List T} (h : Own E w base s xs) : Own E w.drew base s xs := h

/-- What the program's tables say of a slice type over these elements. -/
structure SlT (P : Program) {T : Type} (E : El T) (st : TypeId) where
  ht : P.underlying st = some (.slice E.t)
  i : TypeInfo
  hi : P.info? E.t = some i
  z : Value
  hz : i.zero = some z
  hs : i.size = E.k
  hzs : z.cells.size = E.k

theorem run_append_nothing {P : Program} {T : Type} {E : El T} {st : TypeId} (TT : SlT P E st) (ty : TypeId) {w : World} {base : Nat} {s : Slc} {xs : List T} (hown : Own E w base s xs) (c : Nat) :
    (Builtin.append_ #[st, st] ty #[s.v, .slice none 0 c]).run P w = .ok s.v w := by
  rcases hown.form with ⟨rfl, rfl⟩ | ⟨g, cur, hs, hg, hb, h1, h2, h3, h4⟩
  · simp [Slc.v, Builtin.append_, run_underlying TT.ht, sizeOf, typeInfo, TT.hi, Builtin.lenOf, Builtin.firstCells]
  · rw [hs]
    simp [Slc.v, Builtin.append_, run_underlying TT.ht, sizeOf, typeInfo, TT.hi, Builtin.lenOf, Builtin.firstCells, h1, storeCells]

/-- append onto a row of the call's own. -/
theorem apK_own {P : Program} {T : Type} {E : El T} {st : TypeId} (TT : SlT P E st) {ty : TypeId} {w : World} {base : Nat} {s x : Slc} {xs ys : List T} {K : Slc → World → Prop} (hown : Own E w base s xs) (hx : Rd E w x ys)
    (hb : base ≤ w.heap.size) (hl : (xs.length + ys.length) * TT.i.bytes ≤ 140737488355328) (hm : xs.length + ys.length ≤ maxLen)
    (hK : ∀ r w', Own E w' base r (xs ++ ys) → w.grownBy w' s.blk → (r.blk = s.blk ∨ r.blk = some w.heap.size) → K r w') : apK P #[st, st] ty s x w K := by
  cases ha : x.a with
  | none =>
    have hy := hx.none_nil ha
    subst hy
    have hn : x.n = 0 := by simpa using hx.n
    refine ⟨s, w, ?_, hK s w (by simpa using hown) (World.grownBy.refl w _) (.inl rfl)⟩
    rw [ha, hn]
    exact run_append_nothing TT ty hown x.c
  | some a =>
    have hcells : ∀ (j : Nat) (u : Value), (flat E ys)[j]? = some u → w.cell? (a.add j) = some u := by
      intro j u hu
      have hj : j < ys.length * E.k := by rw [← flat_length]; exact (List.getElem?_eq_some_iff.1 hu).1
      have hk := E.pos
      have hq : j / E.k < ys.length := (Nat.div_lt_iff_lt_mul hk).2 hj
      have hr : j % E.k < E.k := Nat.mod_lt _ hk
      have hxi : ys[j / E.k]? = some ys[j / E.k] := by simp [hq]
      have hv : (E.cells ys[j / E.k])[j % E.k]? = some ((E.cells ys[j / E.k])[j % E.k]'(by rw [E.len]; exact hr)) := List.getElem?_eq_getElem _
      have e : j / E.k * E.k + j % E.k = j := by rw [Nat.mul_comm]; exact Nat.div_add_mod j E.k
      have h1 := flat_get E ys _ _ _ _ hxi hv
      rw [e, hu] at h1
      have h2 := hx.at_ _ _ hxi _ _ hv
      rw [← Option.some.inj h1] at h2
      simp only [Slc.at_, ha, Option.getD_some] at h2
      rwa [add_add, e] at h2
    obtain ⟨v', w', hrun, h2, h3, _, h5⟩ := run_append_own_at (P := P) w base st ty E.t TT.i TT.z E.k TT.i.bytes TT.ht TT.hi TT.hz TT.hs rfl TT.hzs E.pos s.v xs.length (flat E xs) hown a ys.length x.c (flat E ys) (flat_length E ys) hcells (flat_one E ys) hm hl hb
    have hv' : ∃ r : Slc, v' = r.v := by
      rcases h2.2 with ⟨e, _⟩ | ⟨g, cap, cur, e, _⟩
      · exact ⟨⟨none, 0, 0⟩, e⟩
      · exact ⟨⟨_, _, _⟩, e⟩
    obtain ⟨r, rfl⟩ := hv'
    refine ⟨r, w', ?_, hK r w' ?_ (by rw [← ownBlock_v]; exact h3) ?_⟩
    · rw [ha, hx.n]; exact hrun
    · unfold Own; rw [List.length_append, flat_append]; exact h2
    · rw [ownBlock_v, ownBlock_v] at h5; exact h5

theorem putL_length : ∀ (us vs : List Value) (i : Nat), (putL vs i us).length = vs.length := by
  intro us
  induction us with
  | nil => intro vs i; rfl
  | cons u r ih => intro vs i; rw [putL, ih]; simp

theorem putL_get : ∀ (us vs : List Value) (i m : Nat), i + us.length ≤ vs.length → (putL vs i us)[m]? = if i ≤ m ∧ m < i + us.length then us[m - i]? else vs[m]? := by
  intro us
  induction us with
  | nil => intro vs i m _; simp only [putL, List.length_nil, Nat.add_zero]; rw [if_neg (by omega)]
  | cons u r ih =>
    intro vs i m hl
    simp only [List.length_cons] at hl
    rw [putL, ih (vs.set i u) (i + 1) m (by simp; omega)]
    by_cases h1 : i + 1 ≤ m ∧ m < i + 1 + r.length
    · rw [if_pos h1, if_pos (by simp; omega)]
      have : m - i = (m - (i + 1)) + 1 := by omega
      rw [this, List.getElem?_cons_succ]
    · rw [if_neg h1]
      by_cases h2 : m = i
      · subst h2
        rw [if_pos (by simp), List.getElem?_set_self (by omega), Nat.sub_self, List.getElem?_cons_zero]
      · rw [List.getElem?_set_ne (Ne.symm h2), if_neg (by simp; omega)]

theorem flat_set {T : Type} {E : El T} {xs : List T} {i : Nat} {x y : T} (hx : xs[i]? = some x) {j : Nat} {us cur : List Value} (hj : j + us.length ≤ E.k) (hy : E.cells y = putL (E.cells x) j us)
    (hc : cur.take (xs.length * E.k) = flat E xs) (hl : xs.length * E.k ≤ cur.length) : (putL cur (i * E.k + j) us).take (xs.length * E.k) = flat E (xs.set i y) := by
  have hi : i < xs.length := (List.getElem?_eq_some_iff.1 hx).1
  have hik : i * E.k + E.k ≤ xs.length * E.k := by
    have := Nat.mul_le_mul_right E.k (show i + 1 ≤ xs.length from hi)
    rw [Nat.add_mul, Nat.one_mul] at this
    exact this
  refine List.ext_getElem? fun m => ?_
  by_cases hm : m < xs.length * E.k
  · rw [List.getElem?_take_of_lt hm, putL_get us cur _ _ (by omega)]
    have hq : m / E.k < xs.length := (Nat.div_lt_iff_lt_mul E.pos).2 hm
    have hr : m % E.k < E.k := Nat.mod_lt _ E.pos
    have e : m / E.k * E.k + m % E.k = m := by rw [Nat.mul_comm]; exact Nat.div_add_mod m E.k
    have hcur : cur[m]? = (flat E xs)[m]? := by rw [← hc, List.getElem?_take_of_lt hm]
    have key : ∀ (zs : List T) (z : T), zs[m / E.k]? = some z → (flat E zs)[m]? = (E.cells z)[m % E.k]? := by
      intro zs z hz
      have hv : (E.cells z)[m % E.k]? = some ((E.cells z)[m % E.k]'(by rw [E.len]; exact hr)) := List.getElem?_eq_getElem _
      have := flat_get E zs _ _ _ _ hz hv
      rw [e] at this
      rw [this, hv]
    by_cases hqi : m / E.k = i
    · have hy' : (xs.set i y)[m / E.k]? = some y := by rw [hqi, List.getElem?_set_self hi]
      rw [key _ _ hy', hy, putL_get us (E.cells x) j _ (by rw [E.len]; exact hj)]
      have hx' : xs[m / E.k]? = some x := by rw [hqi]; exact hx
      rw [hcur, key _ _ hx']
      have e2 : m = i * E.k + m % E.k := by rw [← hqi]; exact e.symm
      generalize m % E.k = r at *
      subst e2
      by_cases hcase : j ≤ r ∧ r < j + us.length
      · rw [if_pos (by omega), if_pos hcase]
        congr 1
        omega
      · rw [if_neg (by omega), if_neg hcase]
    · have hne : (xs.set i y)[m / E.k]? = xs[m / E.k]? := List.getElem?_set_ne (Ne.symm hqi)
      have hx' : xs[m / E.k]? = some xs[m / E.k] := by simp [hq]
      rw [key _ _ (hne.trans hx'), hcur, key _ _ hx', if_neg]
      rintro ⟨h1, h2⟩
      refine hqi (Nat.le_antisymm ?_ ?_)
      · refine Nat.le_of_lt_succ ((Nat.div_lt_iff_lt_mul E.pos).2 ?_)
        rw [Nat.succ_mul]; omega
      · exact (Nat.le_div_iff_mul_le E.pos).2 (by omega)
  · rw [List.getElem?_eq_none (by simp; omega), List.getElem?_eq_none (by rw [flat_length]; simp; omega)]

/-- A store into an element of a row of the call's own (of the whole element, or of a part of it). -/
theorem Own.st {T : Type} {E : El T} {w : World} {base : Nat} {s : Slc} {xs : List T} (h : Own E w base s xs) {i : Nat} {x y : T} (hx : xs[i]? = some x) {j : Nat} {us : List Value} (hj : j + us.length ≤ E.k)
    (hy : E.cells y = putL (E.cells x) j us) {K : World → Prop} (hK : ∀ w', Own E w' base s (xs.set i y) → w.grownBy w' s.blk → w'.heap.size = w.heap.size → K w') : stK ((s.at_ E.k i).add j) us w K := by
  rcases h.form with ⟨rfl, rfl⟩ | ⟨g, cur, hs, hg, hb, h1, h2, h3, h4⟩
  · simp at hx
  · have hi : i < xs.length := (List.getElem?_eq_some_iff.1 hx).1
    have hik : i * E.k + E.k ≤ xs.length * E.k := by
      have := Nat.mul_le_mul_right E.k (show i + 1 ≤ xs.length from hi)
      rw [Nat.add_mul, Nat.one_mul] at this
      exact this
    have hcap : xs.length * E.k ≤ s.c * E.k := Nat.mul_le_mul_right _ h1
    have ha : (s.at_ E.k i).add j = ⟨g, i * E.k + j, none⟩ := by
      rw [hs]; show ((⟨g, 0, none⟩ : Addr).add (i * E.k)).add j = _
      rw [add_add, add_mk, Nat.zero_add]
    rw [ha]
    refine stK_blk hb (by omega) fun w' hb' hg' hsz => hK w' ?_ ?_ hsz
    · have := Own.of_blk (E := E) (xs := xs.set i y) (c := s.c) hg hb' (by simpa using h1) h2 (by rw [putL_length]; exact h3) (by rw [List.length_set]; exact flat_set hx hj hy h4 (by omega))
      rw [hs]
      simpa using this
    · rw [hs]; exact hg'
theorem Own.st0 {T : Type} {E : El T} {w : World} {base : Nat} {s : Slc} {xs : List T} (h : Own E w base s xs) {i : Nat} {x y : T} (hx : xs[i]? = some x) {us : List Value} (hy : E.cells y = us)
    {K : World → Prop} (hK : ∀ w', Own E w' base s (xs.set i y) → w.grownBy w' s.blk → w'.heap.size = w.heap.size → K w') : stK (s.at_ E.k i) us w K := by
  have hl : us.length = E.k := by rw [← hy, E.len]
  have hy' : E.cells y = putL (E.cells x) 0 us := by
    refine List.ext_getElem? fun m => ?_
    rw [putL_get us _ 0 m (by rw [E.len]; omega), hy]
    by_cases hm : m < us.length
    · rw [if_pos (by omega)]; rfl
    · rw [if_neg (by omega), List.getElem?_eq_none (by omega), List.getElem?_eq_none (by rw [E.len]; omega)]
  have := h.st hx (j := 0) (by omega) hy' hK
  rwa [add_zero] at this

/-- A row of one element that was laid for an append. -/
theorem rd_one {T : Type} {E : El T} {w : World} {g : Nat} {y : T} {vs : List Value} (hb : Blk w g E.t vs) (hy : E.cells y = vs) : Rd E w ⟨some ⟨g, 0, none⟩, 1, 1⟩ [y] := by
  refine ⟨rfl, Nat.le_refl _, by simp [maxLen], fun _ => rfl, fun i x hx => ?_⟩
  cases i with
  | zero =>
    simp only [List.getElem?_cons_zero, Option.some.injEq] at hx
    subst hx
    show cellsAt w ((⟨g, 0, none⟩ : Addr).add (0 * E.k)) _
    rw [Nat.zero_mul, add_zero, hy]
    exact hb.cells
  | succ i => simp at hx
/-- The empty row that 'append([]T{}, ..)' lays. -/
theorem own_empty {T : Type} {E : El T} {w : World} {g base : Nat} (hb : Blk w g E.t []) (hg : base ≤ g) : Own E w base ⟨some ⟨g, 0, none⟩, 0, 0⟩ [] :=
  Own.of_blk (E := E) (xs := []) (c := 0) hg hb (Nat.le_refl _) (by simp [maxLen]) (by simp) (by simp [flat])

/-! ### The words, as rules -/
theorem ldI_of {k : IntKind} {a : Addr} {w : World} {K : Int → Prop} {x : Int} (h : w.cell? a = some (.int k x)) (hK : K x) : ldI k a w K := ⟨x, h, hK⟩
theorem ldB_of {a : Addr} {w : World} {K : Bool → Prop} {x : Bool} (h : w.cell? a = some (.bool x)) (hK : K x) : ldB a w K := ⟨x, h, hK⟩
theorem ldStr_of {a : Addr} {w : World} {K : ByteArray → Prop} {x : ByteArray} (h : w.cell? a = some (.string x)) (hK : K x) : ldStr a w K := ⟨x, h, hK⟩
theorem ldP_of {a : Addr} {w : World} {K : Option Addr → Prop} {x : Option Addr} (h : w.cell? a = some (.pointer x)) (hK : K x) : ldP a w K := ⟨x, h, hK⟩
theorem ldSl_of {a : Addr} {w : World} {K : Slc → Prop} {x : Slc} (h : w.cell? a = some (.slice x.a x.n x.c)) (hK : K x) : ldSl a w K := ⟨x, h, hK⟩
theorem ldM_of {a : Addr} {w : World} {K : Option Nat → Prop} {x : Option Nat} (h : w.cell? a = some (.map x)) (hK : K x) : ldM a w K := ⟨x, h, hK⟩
theorem ldS_of {r : Rep} {a : Addr} {w : World} {K : r.T → Prop} {x : r.T} (h : cellsAt w a (r.cells x)) (hK : K x) : ldS r a w K := ⟨x, h, hK⟩

/-- A variable of its own, laid and filled. -/
theorem box_of {t : TypeId} {zs vs : List Value} {w : World} {K : Addr → World → Prop} (hl : zs.length = vs.length)
    (hK : ∀ w', Blk w' w.heap.size t vs → Below w.heap.size w w' → w'.heap.size = w.heap.size + 1 → K ⟨w.heap.size, 0, none⟩ w') : nw t zs w fun c w3 => stK c vs w3 fun w4 => K c w4 := by
  refine nw_blk fun w1 hb1 hB1 hs1 => ?_
  refine stK_blk hb1 (by omega) fun w2 hb2 hg2 hs2 => hK w2 ?_ ?_ (by omega)
  · have e : putL zs 0 vs = vs := by
      refine List.ext_getElem? fun m => ?_
      rw [putL_get vs zs 0 m (by omega)]
      by_cases hm : m < vs.length
      · rw [if_pos (by omega)]; rfl
      · rw [if_neg (by omega), List.getElem?_eq_none (by omega), List.getElem?_eq_none (by omega)]
    rw [e] at hb2
    exact hb2
  · exact hB1.grown hg2 (by omega) fun k hk => by cases hk; exact Nat.le_refl _

/-! ### A list that is being turned into another, from its front -/
def mix {α : Type} (ys xs : List α) (k : Nat) : List α := ys.take k ++ xs.drop k
theorem mix_zero {α : Type} (ys xs : List α) : mix ys xs 0 = xs := by simp [mix]
theorem mix_all {α : Type} {ys xs : List α} (h : ys.length = xs.length) : mix ys xs xs.length = ys := by simp [mix, ← h]
theorem mix_length {α : Type} {ys xs : List α} (h : ys.length = xs.length) (k : Nat) : (mix ys xs k).length = xs.length := by simp [mix]; omega
theorem mix_get {α : Type} {ys xs : List α} (h : ys.length = xs.length) {k : Nat} (hk : k < xs.length) (i : Nat) : (mix ys xs k)[i]? = if i < k then ys[i]? else xs[i]? := by
  unfold mix
  have hl : (ys.take k).length = k := by simp; omega
  by_cases hi : i < k
  · rw [List.getElem?_append_left (by omega), List.getElem?_take_of_lt hi, if_pos hi]
  · rw [List.getElem?_append_right (by omega), hl, List.getElem?_drop, if_neg hi]
    congr 1
    omega
theorem mix_set {α : Type} {ys xs : List α} (h : ys.length = xs.length) {k : Nat} (hk : k < xs.length) {y : α} (hy : ys[k]? = some y) : (mix ys xs k).set k y = mix ys xs (k + 1) := by
  unfold mix
  have hl : (ys.take k).length = k := by simp; omega
  have hy' : ys[k]'(by omega) = y := by
    rw [List.getElem?_eq_getElem (by omega)] at hy
    exact Option.some.inj hy
  rw [List.set_append_right _ _ (by omega), hl, Nat.sub_self, List.drop_eq_getElem_cons hk, List.set_cons_zero, List.take_succ_eq_append_getElem (by omega), hy']
  simp
theorem mix_same {α : Type} {ys xs : List α} (h : ys.length = xs.length) {k : Nat} (hk : k < xs.length) (he : ys[k]? = xs[k]?) : mix ys xs k = mix ys xs (k + 1) := by
  have hy : ys[k]? = some (ys[k]'(by omega)) := List.getElem?_eq_getElem _
  rw [← mix_set h hk hy]
  refine (List.ext_getElem? fun i => ?_)
  by_cases hi : i = k
  · subst hi
    rw [List.getElem?_set_self (by rw [mix_length h]; exact hk), mix_get h hk, if_neg (by omega), ← he, hy]
  · rw [List.getElem?_set_ne (Ne.symm hi)]

/-! ### What may have turned -/
/-- Of the blocks that were there those outside S are as they were. -/
structure Chg (S : Nat → Prop) (w w' : World) : Prop where
  os : w'.os = w.os
  tape : w'.tape = w.tape
  output : w'.output = w.output
  size : w.heap.size ≤ w'.heap.size
  block : ∀ k, k < w.heap.size → ¬ S k → w'.heap[k]? = w.heap[k]?
theorem Chg.refl (S : Nat → Prop) (w : World) : Chg S w w := ⟨rfl, rfl, rfl, Nat.le_refl _, fun _ _ _ => rfl⟩
theorem Chg.trans {S S' : Nat → Prop} {a b c : World} (h : Chg S a b) (k : Chg S' b c) (hs : ∀ i, i < a.heap.size → S' i → S i) : Chg S a c :=
  ⟨k.os.trans h.os, k.tape.trans h.tape, k.output.trans h.output, Nat.le_trans h.size k.size, fun i hi hn => (k.block i (Nat.lt_of_lt_of_le hi h.size) (fun e => hn (hs i hi e))).trans (h.block i hi hn)⟩
theorem Chg.mono {S S' : Nat → Prop} {a b : World} (h : Chg S a b) (hs : ∀ i, i < a.heap.size → S i → S' i) : Chg S' a b :=
  ⟨h.os, h.tape, h.output, h.size, fun i hi hn => h.block i hi fun e => hn (hs i hi e)⟩
theorem Chg.below {S : Nat → Prop} {B : Nat} {a b : World} (h : Chg S a b) (hB : B ≤ a.heap.size) (hs : ∀ i, i < B → ¬ S i) : Below B a b :=
  ⟨h.os, h.tape, h.output, h.size, fun k hk => h.block k (by omega) (hs k hk)⟩
theorem Chg.of_below {B : Nat} {a b : World} (h : Below B a b) : Chg (fun k => B ≤ k) a b := ⟨h.os, h.tape, h.output, h.size, fun k _ hn => h.block k (by omega)⟩
theorem Chg.of_ext {S : Nat → Prop} {a b : World} (h : Below a.heap.size a b) : Chg S a b := ⟨h.os, h.tape, h.output, h.size, fun k hk _ => h.block k hk⟩
theorem Chg.of_grown {S : Nat → Prop} {a b : World} {row : Option Nat} (h : a.grownBy b row) (hs : ∀ k, row = some k → S k) : Chg S a b :=
  ⟨h.os, h.tape, h.output, h.size, fun k hk hn => h.block k hk fun e => hn (hs k e.symm)⟩
theorem Chg.ext {a b : World} {S : Nat → Prop} (h : Chg S a b) (hs : ∀ i, i < a.heap.size → ¬ S i) : Below a.heap.size a b := ⟨h.os, h.tape, h.output, h.size, fun k hk => h.block k hk (hs k hk)⟩
theorem Blk.chg {S : Nat → Prop} {w w' : World} {g : Nat} {t : TypeId} {vs : List Value} (h : Blk w g t vs) (hc : Chg S w w') (hg : ¬ S g) : Blk w' g t vs := (hc.block g h.lt hg).trans h
theorem Own.chg {T : Type} {E : El T} {S : Nat → Prop} {w w' : World} {base : Nat} {s : Slc} {xs : List T} (h : Own E w base s xs) (hc : Chg S w w') (hg : ∀ g, s.blk = some g → ¬ S g) : Own E w' base s xs := by
  rcases h.form with ⟨rfl, rfl⟩ | ⟨g, cur, hs, hb, hblk, h1, h2, h3, h4⟩
  · exact Own.nil _ _ _
  · rw [hs]
    exact Own.of_blk hb (hblk.chg hc (hg g (by rw [hs]; rfl))) h1 h2 h3 h4
theorem Rd.chg {T : Type} {E : El T} {S : Nat → Prop} {w w' : World} {s : Slc} {xs : List T} (h : Rd E w s xs) (hc : Chg S w w') (hg : ∀ a, s.a = some a → ¬ S a.block) : Rd E w' s xs := by
  refine ⟨h.n, h.nc, h.cm, h.some_, fun i x hx => ?_⟩
  have hi : i < xs.length := (List.getElem?_eq_some_iff.1 hx).1
  obtain ⟨a, ha⟩ := Option.isSome_iff_exists.1 (h.some_ (by omega))
  have hcell := h.at_ i x hx
  intro j v hv
  have hc1 := hcell j v hv
  have hlt := World.block_lt_of_cell? w _ hc1
  rw [World.cell?_of_block (w := w) (hc.block _ hlt (by simpa [Slc.at_, ha] using hg a ha))]
  exact hc1
/-- Rows and blocks of other element types are apart. -/
theorem Own.blk_t {T : Type} {E : El T} {w : World} {base : Nat} {s : Slc} {xs : List T} (h : Own E w base s xs) {g : Nat} (hg : s.blk = some g) : ∃ cs, Blk w g E.t cs := by
  rcases h.form with ⟨rfl, rfl⟩ | ⟨g', cur, hs, hb, hblk, h1, h2, h3, h4⟩
  · cases hg
  · rw [hs] at hg
    cases hg
    exact ⟨_, hblk⟩
theorem Blk.ne_t {w : World} {g g' : Nat} {t t' : TypeId} {cs cs' : List Value} (h : Blk w g t cs) (h' : Blk w g' t' cs') (hne : t ≠ t') : g ≠ g' := by
  rintro rfl
  unfold Blk at h h'
  rw [h] at h'
  injection h' with h'
  injection h' with _ ht
  exact hne ht

/-! ### Bytes -/
def u8 (x : Int) : UInt8 := UInt8.ofNat x.toNat
theorem u8_toNat {x : Int} (h0 : 0 ≤ x) (h1 : x < 256) : ((u8 x).toNat : Int) = x := by
  unfold u8
  rw [UInt8.toNat_ofNat']
  omega
theorem wrap8_u8 (x : Int) : IntKind.u8.wrap x = ((u8 (x % 256)).toNat : Int) := by
  rw [u8_toNat (by omega) (by omega), IntKind.wrap_u8]
theorem bitsR_eq (op : BinOp) (k : IntKind) (x y : Int) : bitsR op k x y = bits op k x y := by cases op <;> rfl

/-! ### Numbers -/
theorem wrap64_id {x : Int} (h : -9223372036854775808 ≤ x ∧ x ≤ 9223372036854775807) : IntKind.i64.wrap x = x := by
  have := IntWalk.i64_in x h
  exact this

end Go.Vc
