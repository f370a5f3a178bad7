/- Program-generic: maps with int keys in memory, as sorted lists of keys and values. No program in sight. -/
import Derived.Test.YtpadlibcalomnaaMem3
import Derived.MapKept
import Derived.Maps.Own
set_option linter.unusedVariables false
namespace Go.Vc
open Go.RowKit

structure Ent (V : Type) where
  k : Int
  v : V
  b : Nat
section
variable {V : Type} (enc : V → Value)
def Ent.val (e : Ent V) : MapEntry := { key := .int .i64 e.k, val := enc e.v, born := e.b }
/-- The map at r has just these entries, in the order of their making. -/
structure MapE (w : World) (r : Nat) (E : List (Ent V)) (clock : Nat) : Prop where
  heap : w.heap[r]? = some (.map (E.map (Ent.val enc)).toArray clock)
  keys : E.Pairwise fun x y => x.k ≠ y.k
  stamps : E.Pairwise fun x y => x.b < y.b
  lt : ∀ e ∈ E, e.b < clock
  wf : ∀ e ∈ E, -9223372036854775808 ≤ e.k ∧ e.k ≤ 9223372036854775807

/-! ### Sorted lists of keys and values -/
def Srt (L : List (Int × V)) : Prop := L.Pairwise fun p q => p.1 < q.1
def lookL (L : List (Int × V)) (k : Int) : Option V := (L.find? fun p => p.1 == k).map (·.2)
def delL (L : List (Int × V)) (k : Int) : List (Int × V) := L.filter fun p => p.1 != k
def putL' (L : List (Int × V)) (k : Int) (v : V) : List (Int × V) := match L with
  | [] => [(k, v)]
  | p :: r => if k < p.1 then (k, v) :: p :: r else if k = p.1 then (k, v) :: r else p :: putL' r k v
def pairs (E : List (Ent V)) : List (Int × V) := E.map fun e => (e.k, e.v)
/-- The map at r holds what the sorted list says. -/
def MapM (w : World) (r : Nat) (L : List (Int × V)) : Prop := ∃ E clock, MapE enc w r E clock ∧ (pairs E).Perm L ∧ Srt L

variable {enc}
theorem MapE.lt_heap {w : World} {r : Nat} {E : List (Ent V)} {clock : Nat} (h : MapE enc w r E clock) : r < w.heap.size := (Array.getElem?_eq_some_iff.1 h.heap).1
theorem MapM.lt {w : World} {r : Nat} {L : List (Int × V)} (h : MapM enc w r L) : r < w.heap.size := by
  obtain ⟨E, c, h, _⟩ := h
  exact h.lt_heap
theorem MapM.keep {w w' : World} {r : Nat} {L : List (Int × V)} (h : MapM enc w r L) (hk : w'.heap[r]? = w.heap[r]?) : MapM enc w' r L := by
  obtain ⟨E, c, h, hp⟩ := h
  exact ⟨E, c, ⟨hk.trans h.heap, h.keys, h.stamps, h.lt, h.wf⟩, hp⟩
theorem MapM.chg {S : Nat → Prop} {w w' : World} {r : Nat} {L : List (Int × V)} (h : MapM enc w r L) (hc : Chg S w w') (hS : ¬ S r) : MapM enc w' r L := h.keep (hc.block r h.lt hS)
theorem MapM.ext {w w' : World} {r : Nat} {L : List (Int × V)} (h : MapM enc w r L) (hb : Below w.heap.size w w') : MapM enc w' r L := h.keep (hb.block r h.lt)
theorem MapM.new (w : World) : MapM enc (w.alloc (.map #[] 0)) w.heap.size ([] : List (Int × V)) := by
  refine ⟨[], 0, ⟨?_, .nil, .nil, (fun e he => by cases he), (fun e he => by cases he)⟩, .refl _, .nil⟩
  show (w.heap.push _)[w.heap.size]? = _
  simp
theorem MapM.ne_blk {w : World} {r g : Nat} {L : List (Int × V)} {t : TypeId} {vs : List Value} (h : MapM enc w r L) (hb : Blk w g t vs) : r ≠ g := by
  rintro rfl
  obtain ⟨E, c, h, _⟩ := h
  have h1 := h.heap
  unfold Blk at hb
  rw [hb] at h1
  cases h1
theorem MapM.ne_own {T : Type} {El' : El T} {w : World} {r base : Nat} {L : List (Int × V)} {s : Slc} {xs : List T} (h : MapM enc w r L) (ho : Own El' w base s xs) : ∀ k, s.blk = some k → k ≠ r := fun k hk e => by
  obtain ⟨cs, hcs⟩ := ho.blk_t hk
  exact h.ne_blk hcs e.symm

/-! ### Looking for a key -/
def idxE : List (Ent V) → Int → Option (Nat × V)
  | [], _ => none
  | e :: r, k => if k = e.k then some (0, e.v) else (idxE r k).map fun p => (p.1 + 1, p.2)
theorem findNow_idx (k : Int) : ∀ (E : List (Ent V)) (i : Nat), Instr.findNow (.int .i64) (.int .i64 k) (E.map (Ent.val enc)) i = some ((idxE E k).map fun p => (i + p.1, enc p.2))
  | [], i => rfl
  | e :: r, i => by
    rw [List.map_cons, Instr.findNow]
    have hs : Instr.sameNow (.int .i64) (.int .i64 k) (Ent.val enc e).key = some (k == e.k) := by
      show (if (IntKind.i64 = IntKind.i64) then some (k == e.k) else none) = _
      rw [if_pos rfl]
    rw [hs, idxE]
    by_cases h : k = e.k
    · rw [if_pos h, show (k == e.k) = true from beq_iff_eq.2 h]
      rfl
    · rw [if_neg h, show (k == e.k) = false from beq_eq_false_iff_ne.2 h]
      dsimp only
      rw [findNow_idx k r (i + 1)]
      cases idxE r k with
      | none => rfl
      | some p =>
        show some (some (i + 1 + p.1, enc p.2)) = some (some (i + (p.1 + 1), enc p.2))
        rw [show i + 1 + p.1 = i + (p.1 + 1) by omega]
theorem idxE_some {k : Int} {v : V} : ∀ {E : List (Ent V)} {i : Nat}, idxE E k = some (i, v) → ∃ e, E[i]? = some e ∧ e.k = k ∧ e.v = v
  | e :: r, i, h => by
    rw [idxE] at h
    by_cases hk : k = e.k
    · rw [if_pos hk] at h
      cases h
      exact ⟨e, rfl, hk.symm, rfl⟩
    · rw [if_neg hk] at h
      obtain ⟨p, hp, e'⟩ := Option.map_eq_some_iff.1 h
      cases e'
      obtain ⟨x, hx, h1, h2⟩ := idxE_some (E := r) (i := p.1) (by rw [hp])
      exact ⟨x, hx, h1, h2⟩
theorem idxE_none {k : Int} : ∀ {E : List (Ent V)}, idxE E k = none → ∀ e ∈ E, e.k ≠ k
  | [], _, e, he => by cases he
  | x :: r, h, e, he => by
    rw [idxE] at h
    by_cases hk : k = x.k
    · rw [if_pos hk] at h; cases h
    · rw [if_neg hk] at h
      have h := Option.map_eq_none_iff.1 h
      rcases List.mem_cons.1 he with rfl | he
      · exact fun e => hk e.symm
      · exact idxE_none h e he
theorem lookL_some {L : List (Int × V)} (hs : Srt L) {k : Int} {v : V} : lookL L k = some v ↔ (k, v) ∈ L := by
  unfold lookL
  rw [Option.map_eq_some_iff]
  constructor
  · rintro ⟨p, hp, rfl⟩
    have h1 := List.find?_some hp
    have h2 := List.mem_of_find?_eq_some hp
    have : p.1 = k := by simpa using h1
    rw [← this]
    exact h2
  · intro hm
    cases hf : L.find? (fun p => p.1 == k) with
    | none =>
      have := List.find?_eq_none.1 hf (k, v) hm
      simp at this
    | some q =>
      have h1 : q.1 = k := by simpa using List.find?_some hf
      have h2 := List.mem_of_find?_eq_some hf
      refine ⟨q, rfl, ?_⟩
      obtain ⟨qk, qv⟩ := q
      subst h1
      -- keys are told apart
      have : ∀ {M : List (Int × V)}, Srt M → ∀ {a b c}, (a, b) ∈ M → (a, c) ∈ M → b = c := by
        intro M hM
        induction hM with
        | nil => intro a b c h; cases h
        | cons hx _ ih =>
          intro a b c hb hc
          rcases List.mem_cons.1 hb with e | hb
          · rcases List.mem_cons.1 hc with e' | hc
            · have := e.trans e'.symm
              cases this; rfl
            · have := hx _ hc
              rw [← e] at this
              exact absurd this (Int.lt_irrefl _)
          · rcases List.mem_cons.1 hc with e' | hc
            · have := hx _ hb
              rw [← e'] at this
              exact absurd this (Int.lt_irrefl _)
            · exact ih hb hc
      exact this hs h2 hm
theorem lookL_idx {E : List (Ent V)} {L : List (Int × V)} (hp : (pairs E).Perm L) (hs : Srt L) (k : Int) : (idxE E k).map (·.2) = lookL L k := by
  cases hi : idxE E k with
  | none =>
    cases hg : lookL L k with
    | none => rfl
    | some v =>
      have := hp.mem_iff.2 ((lookL_some hs).1 hg)
      obtain ⟨e, he, e2⟩ := List.mem_map.1 this
      have e2 := congrArg Prod.fst e2
      exact absurd e2 (idxE_none hi e he)
  | some p =>
    obtain ⟨i, v⟩ := p
    obtain ⟨e, he, h1, h2⟩ := idxE_some hi
    refine ((lookL_some hs).2 (hp.mem_iff.1 (List.mem_map.2 ⟨e, List.mem_of_getElem? he, ?_⟩))).symm
    rw [h1, h2]

/-! ### The operations -/
def putM (w : World) (r : Nat) (o : Obj) : World := { w with heap := w.heap.setIfInBounds r o }
theorem putM_chg (w : World) (r : Nat) (o : Obj) : Chg (fun k => k = r) w (putM w r o) :=
  ⟨rfl, rfl, rfl, by show w.heap.size ≤ (w.heap.setIfInBounds r o).size; simp, fun k _ hk => by show (w.heap.setIfInBounds r o)[k]? = _; rw [Array.getElem?_setIfInBounds_ne (fun e => hk e.symm)]⟩
theorem putM_heap {w : World} {r : Nat} (o : Obj) (h : r < w.heap.size) : (putM w r o).heap[r]? = some o := by
  show (w.heap.setIfInBounds r o)[r]? = _
  simp [h]
theorem putM_size (w : World) (r : Nat) (o : Obj) : (putM w r o).heap.size = w.heap.size := by show (w.heap.setIfInBounds r o).size = _; simp

theorem Srt.nodup {L : List (Int × V)} (h : Srt L) : L.Nodup := h.imp fun {a b} hab e => by rw [e] at hab; exact Int.lt_irrefl _ hab
theorem pairs_nodup {E : List (Ent V)} (h : E.Pairwise fun x y => x.k ≠ y.k) : (pairs E).Nodup := List.pairwise_map.2 (h.imp fun {a b} hab e => hab (congrArg Prod.fst e))
theorem Srt.one {M : List (Int × V)} (hM : Srt M) : ∀ {a b c}, (a, b) ∈ M → (a, c) ∈ M → b = c := by
  intro a b c hb hc
  have h1 := (lookL_some hM).2 hb
  rw [(lookL_some hM).2 hc] at h1
  exact (Option.some.inj h1).symm
theorem mem_putL {L : List (Int × V)} (hs : Srt L) (k : Int) (v : V) : ∀ a b, (a, b) ∈ putL' L k v ↔ (a = k ∧ b = v) ∨ (a ≠ k ∧ (a, b) ∈ L) := by
  induction hs with
  | nil =>
    intro a b
    simp [putL']
  | @cons p L' hp hs' ih =>
    intro a b
    obtain ⟨pk, pv⟩ := p
    rw [putL']
    dsimp only at hp ⊢
    have hgt : ∀ {a b}, (a, b) ∈ L' → pk < a := fun h => hp _ h
    by_cases h1 : k < pk
    · rw [if_pos h1]
      simp only [List.mem_cons, Prod.mk.injEq]
      constructor
      · rintro (h | h | h)
        · exact .inl h
        · exact .inr ⟨by omega, .inl h⟩
        · exact .inr ⟨by have := hgt h; omega, .inr h⟩
      · rintro (h | ⟨_, h | h⟩)
        · exact .inl h
        · exact .inr (.inl h)
        · exact .inr (.inr h)
    · rw [if_neg h1]
      by_cases h2 : k = pk
      · rw [if_pos h2]
        simp only [List.mem_cons, Prod.mk.injEq]
        constructor
        · rintro (h | h)
          · exact .inl h
          · exact .inr ⟨by have := hgt h; omega, .inr h⟩
        · rintro (h | ⟨hne, h | h⟩)
          · exact .inl h
          · omega
          · exact .inr h
      · rw [if_neg h2]
        simp only [List.mem_cons, Prod.mk.injEq, ih]
        constructor
        · rintro (h | h | ⟨hne, h⟩)
          · exact .inr ⟨by omega, .inl h⟩
          · exact .inl h
          · exact .inr ⟨hne, .inr h⟩
        · rintro (h | ⟨hne, h | h⟩)
          · exact .inr (.inl h)
          · exact .inl h
          · exact .inr (.inr ⟨hne, h⟩)
theorem srt_putL {L : List (Int × V)} (hs : Srt L) (k : Int) (v : V) : Srt (putL' L k v) := by
  induction hs with
  | nil => exact List.pairwise_singleton _ _
  | @cons p L' hp hs' ih =>
    obtain ⟨pk, pv⟩ := p
    rw [putL']
    dsimp only at hp ⊢
    by_cases h1 : k < pk
    · rw [if_pos h1]
      refine .cons (fun q hq => ?_) (.cons hp hs')
      rcases List.mem_cons.1 hq with rfl | hq
      · exact h1
      · exact Int.lt_trans h1 (hp q hq)
    · rw [if_neg h1]
      by_cases h2 : k = pk
      · rw [if_pos h2]
        exact .cons (fun q hq => by rw [h2]; exact hp q hq) hs'
      · rw [if_neg h2]
        refine .cons (fun q hq => ?_) ih
        obtain ⟨a, b⟩ := q
        rcases (mem_putL hs' k v a b).1 hq with ⟨rfl, _⟩ | ⟨_, hm⟩
        · show pk < a; omega
        · exact hp _ hm
theorem srt_delL {L : List (Int × V)} (hs : Srt L) (k : Int) : Srt (delL L k) := hs.filter _
theorem mem_delL {L : List (Int × V)} (k a : Int) (b : V) : (a, b) ∈ delL L k ↔ a ≠ k ∧ (a, b) ∈ L := by
  simp [delL, and_comm]
def setE (E : List (Ent V)) (i : Nat) (v : V) : List (Ent V) := E.modify i fun e => { e with v := v }
theorem mem_setE {k : Int} {v v0 : V} : ∀ {E : List (Ent V)} {i : Nat}, E.Pairwise (fun x y => x.k ≠ y.k) → idxE E k = some (i, v0) → ∀ a b, (a, b) ∈ pairs (setE E i v) ↔ (a = k ∧ b = v) ∨ (a ≠ k ∧ (a, b) ∈ pairs E)
  | e :: r, i, hp, h, a, b => by
    rw [idxE] at h
    cases hp with
    | cons hpe hpr =>
    by_cases hk : k = e.k
    · rw [if_pos hk] at h
      cases h
      show (a, b) ∈ (e.k, v) :: pairs r ↔ _ ∨ (_ ∧ (a, b) ∈ (e.k, e.v) :: pairs r)
      simp only [List.mem_cons, Prod.mk.injEq]
      have hne : ∀ {a b}, (a, b) ∈ pairs r → a ≠ k := fun {a b} hm e' => by
        obtain ⟨x, hx, ex⟩ := List.mem_map.1 hm
        have := congrArg Prod.fst ex
        exact hpe x hx (by rw [← hk, ← e']; exact this.symm)
      constructor
      · rintro (⟨h1, h2⟩ | h)
        · exact .inl ⟨by omega, h2⟩
        · exact .inr ⟨hne h, .inr h⟩
      · rintro (⟨h1, h2⟩ | ⟨h1, ⟨h2, _⟩ | h⟩)
        · exact .inl ⟨by omega, h2⟩
        · omega
        · exact .inr h
    · rw [if_neg hk] at h
      obtain ⟨p, hp', e'⟩ := Option.map_eq_some_iff.1 h
      cases e'
      have ih := mem_setE (E := r) (i := p.1) hpr (by rw [hp']) a b (v := v) (k := k)
      show (a, b) ∈ (e.k, e.v) :: pairs (setE r p.1 v) ↔ _ ∨ (_ ∧ (a, b) ∈ (e.k, e.v) :: pairs r)
      simp only [List.mem_cons, Prod.mk.injEq, ih]
      constructor
      · rintro (⟨h1, h2⟩ | h | ⟨h1, h2⟩)
        · exact .inr ⟨by omega, .inl ⟨h1, h2⟩⟩
        · exact .inl h
        · exact .inr ⟨h1, .inr h2⟩
      · rintro (h | ⟨h1, h | h⟩)
        · exact .inr (.inl h)
        · exact .inl h
        · exact .inr (.inr ⟨h1, h⟩)
theorem erase_idx {k : Int} {v0 : V} : ∀ {E : List (Ent V)} {i : Nat}, E.Pairwise (fun x y => x.k ≠ y.k) → idxE E k = some (i, v0) → E.eraseIdx i = E.filter fun e => e.k != k
  | e :: r, i, hp, h => by
    rw [idxE] at h
    cases hp with
    | cons hpe hpr =>
    by_cases hk : k = e.k
    · rw [if_pos hk] at h
      cases h
      rw [List.eraseIdx_cons_zero, List.filter_cons, if_neg (by simp [hk])]
      refine (List.filter_eq_self.2 fun x hx => ?_).symm
      have := hpe x hx
      simp only [bne_iff_ne, ne_eq]
      rw [hk]
      exact fun e => this e.symm
    · rw [if_neg hk] at h
      obtain ⟨p, hp', e'⟩ := Option.map_eq_some_iff.1 h
      cases e'
      rw [List.eraseIdx_cons_succ, List.filter_cons, if_pos (by simpa using fun e => hk e.symm), erase_idx (E := r) (i := p.1) hpr (by rw [hp'])]
theorem filter_none {k : Int} {E : List (Ent V)} (h : idxE E k = none) : E.filter (fun e => e.k != k) = E := List.filter_eq_self.2 fun x hx => by simpa using idxE_none h x hx
section
variable {P : Program} {t kt et : TypeId} {w : World} {r : Nat} {E : List (Ent V)} {clock : Nat}
theorem run_checkKey (hk : P.underlying kt = some (.int .i64)) (b : Bool) (k : Int) : (Instr.checkKey b 10000 kt (.int .i64 k)).run P w = .ok () w := by
  show (Instr.checkKey b (9999 + 1) kt (.int .i64 k)).run P w = _
  rw [Instr.checkKey]
  simp only [Sem.run_bind, run_underlying hk, Result.andThen_ok, Sem.run_pure]
theorem run_getMap {es : Array MapEntry} (h : w.heap[r]? = some (.map es clock)) : (getObj r).run P w = .ok (.map es clock) w := by simp [getObj, Sem.run, h]
theorem run_setMap {es : Array MapEntry} (o : Obj) (h : w.heap[r]? = some (.map es clock)) : (setObj r o).run P w = .ok () (putM w r o) := by simp [setObj, Sem.run, h, putM]
theorem run_findKey (hk : P.underlying kt = some (.int .i64)) (k : Int) : (Instr.findKey kt (.int .i64 k) (E.map (Ent.val enc))).run P w = .ok ((idxE E k).map fun p => (p.1, enc p.2)) w := by
  have := findNow_idx (enc := enc) k E 0
  simp only [Nat.zero_add] at this
  simp [Instr.findKey, run_underlying hk, this]
theorem MapE.lookup (h : MapE enc w r E clock) (ht : P.underlying t = some (.map kt et)) (hk : P.underlying kt = some (.int .i64)) {z : Value} (hz : ∀ w, (zeroValue et).run P w = .ok z w) (k : Int) :
    (Instr.lookup t (.map (some r)) (.int .i64 k) false).run P w = .ok (((idxE E k).map fun p => enc p.2).getD z) w := by
  have hf := run_findKey (P := P) (kt := kt) (w := w) (enc := enc) (E := E) hk k
  cases hi : idxE E k with
  | none =>
    rw [hi] at hf
    simp [Instr.lookup, run_underlying ht, run_getMap h.heap, run_checkKey hk, hf, hz]
  | some p =>
    rw [hi] at hf
    simp [Instr.lookup, run_underlying ht, run_getMap h.heap, run_checkKey hk, hf]
theorem MapE.lookup_ok (h : MapE enc w r E clock) (ht : P.underlying t = some (.map kt et)) (hk : P.underlying kt = some (.int .i64)) {z : Value} (hz : ∀ w, (zeroValue et).run P w = .ok z w) (k : Int) :
    (Instr.lookup t (.map (some r)) (.int .i64 k) true).run P w = .ok (.tuple #[((idxE E k).map fun p => enc p.2).getD z, .bool (idxE E k).isSome]) w := by
  have hf := run_findKey (P := P) (kt := kt) (w := w) (enc := enc) (E := E) hk k
  cases hi : idxE E k with
  | none =>
    rw [hi] at hf
    simp [Instr.lookup, run_underlying ht, run_getMap h.heap, run_checkKey hk, hf, hz]
  | some p =>
    rw [hi] at hf
    simp [Instr.lookup, run_underlying ht, run_getMap h.heap, run_checkKey hk, hf]
end
end
end Go.Vc
